/- Digests: the plain arithmetic. No program in sight. -/
import Derived.Test.YtgdlbpihkodeoaaBase
namespace Go.Proofs.Ytgdlbpihkodeoaa
open Go.RowKit

def nx (a b f : Int) : Int := (a * f + b) % 2305843009213693951
theorem nx_lt (a b f : Int) : nx a b f < 2305843009213693951 := by unfold nx; omega
theorem nx_nn (a b f : Int) : 0 ≤ nx a b f := by unfold nx; omega
def dig (l : List UInt8) : Int := l.foldl (fun h c => nx h ((c.toNat : Int) + 1) 257) 1
theorem dig_bd (l : List UInt8) : 0 ≤ dig l ∧ dig l < 2305843009213693951 := by
  suffices h : ∀ (l : List UInt8) (a : Int), 0 ≤ a ∧ a < 2305843009213693951 → 0 ≤ l.foldl (fun h c => nx h ((c.toNat : Int) + 1) 257) a ∧ l.foldl (fun h c => nx h ((c.toNat : Int) + 1) 257) a < 2305843009213693951 from h l 1 (by omega)
  intro l
  induction l with
  | nil => intro a h; exact h
  | cons c l ih => intro a _; exact ih _ ⟨nx_nn _ _ _, nx_lt _ _ _⟩
theorem dig_snoc (l : List UInt8) (c : UInt8) : dig (l ++ [c]) = nx (dig l) ((c.toNat : Int) + 1) 257 := by simp [dig]
theorem dig_take (l : List UInt8) (k : Nat) (h : k < l.length) : dig (l.take (k + 1)) = nx (dig (l.take k)) ((l[k].toNat : Int) + 1) 257 := by
  rw [List.take_succ_eq_append_getElem h, dig_snoc]
def pr (a b : Int) : Int := nx a (nx b 7 31) 1000003
theorem pr_bd (a b : Int) : 0 ≤ pr a b ∧ pr a b < 2305843009213693951 := ⟨nx_nn _ _ _, nx_lt _ _ _⟩
def isD (a : Int) : Bool := decide (0 ≤ a) && decide (a < 2305843009213693951)
theorem isD_iff (a : Int) : isD a = true ↔ 0 ≤ a ∧ a < 2305843009213693951 := by simp [isD]

/-- bit one of a number -/
theorem and1 (q : Nat) : bits BinOp.and IntKind.i64 (q : Int) 1 = ((q % 2 : Nat) : Int) := by
  unfold bits
  have h1 : (BitVec.ofInt IntKind.i64.bits (q : Int) &&& BitVec.ofInt IntKind.i64.bits 1) = BitVec.ofNat 64 (q % 2) := by
    show (BitVec.ofInt 64 (q : Int) &&& BitVec.ofInt 64 1) = _
    apply BitVec.eq_of_toNat_eq
    have e1 : (BitVec.ofInt 64 (q : Int)) = BitVec.ofNat 64 q := by simp
    have e2 : (BitVec.ofInt 64 1) = 1#64 := by rfl
    rw [e1, e2, BitVec.toNat_and]
    simp only [BitVec.toNat_ofNat]
    rw [Nat.and_one_is_mod]
    omega
  simp only [h1]
  rcases Nat.mod_two_eq_zero_or_one q with h | h <;> rw [h] <;> rfl
end Go.Proofs.Ytgdlbpihkodeoaa
