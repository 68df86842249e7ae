/- Plain: cutting at a mark; numbers of a header are read back. No program in sight. -/
import Derived.Test.YtppmhjaooiameaaDoorUniFmt
import Derived.Lib.IndexMore
import Derived.Lib.Atoi
import Derived.Lib.Strings
namespace Go.Proofs.YtppmhjaooiameaaDoor
open Go.RowKit

theorem occ_head {s : List UInt8} {c : UInt8} {t : List UInt8} {j : Nat} (h : s[j]? ≠ some c) : Lib.occAt s (c :: t) j = false := by
  unfold Lib.occAt
  cases e : s.drop j with
  | nil => rfl
  | cons b l =>
    have : s[j]? = some b := by rw [← List.head?_drop, e]; rfl
    rw [this] at h
    have hne : (c == b) = false := by
      rw [beq_eq_false_iff_ne]; intro q; exact h (by rw [q])
    simp [List.isPrefixOf, hne]
theorem isPrefixOf_app : ∀ (a b : List UInt8), a.isPrefixOf (a ++ b) = true
  | [], _ => rfl
  | x :: a, b => by simp [List.isPrefixOf, isPrefixOf_app a b]
theorem cut_at {l t r : List UInt8} {c : UInt8} (h : c ∉ l) : Lib.cut (l ++ ((c :: t) ++ r)) (c :: t) = (l, r, true) := by
  have hi : Lib.index (l ++ ((c :: t) ++ r)) (c :: t) = (l.length : Int) := by
    refine Lib.index_first (by simp) ?_ fun j hj => occ_head ?_
    · unfold Lib.occAt
      rw [List.drop_left]
      exact isPrefixOf_app _ _
    · rw [List.getElem?_append_left hj, List.getElem?_eq_getElem hj]
      intro q
      injection q with q
      exact h (q ▸ List.getElem_mem hj)
  unfold Lib.cut
  rw [hi, if_pos (by omega), Int.toNat_natCast, List.take_left]
  refine Prod.ext rfl (Prod.ext ?_ rfl)
  show List.drop (l.length + (c :: t).length) (l ++ (c :: t ++ r)) = r
  rw [← List.append_assoc, List.drop_left' (by rw [List.length_append])]
theorem prefix_at (p r : List UInt8) : Lib.hasPrefix (p ++ r) p = true ∧ Lib.trimPrefix (p ++ r) p = r := by
  have h : Lib.hasPrefix (p ++ r) p = true := by
    unfold Lib.hasPrefix
    first
      | exact isPrefixOf_app _ _
      | simp
  refine ⟨h, ?_⟩
  unfold Lib.trimPrefix
  rw [h, if_pos rfl, List.drop_left]

/-- the digits of a number below 1000 -/
def d3 (n : Nat) : List UInt8 := if n < 10 then [UInt8.ofNat (48 + n)] else if n < 100 then [UInt8.ofNat (48 + n / 10), UInt8.ofNat (48 + n % 10)] else [UInt8.ofNat (48 + n / 10 / 10), UInt8.ofNat (48 + n / 10 % 10), UInt8.ofNat (48 + n % 10)]
theorem num_d3 {n : Nat} (h : n < 1000) : num (n : Int) = d3 n := by
  unfold num Lib.itoa
  rw [if_neg (by omega), Int.toNat_natCast]
  unfold d3
  by_cases h1 : n < 10
  · rw [if_pos h1, Lib.decDigits, dif_pos h1]
  · rw [if_neg h1, Lib.decDigits, dif_neg h1]
    by_cases h2 : n < 100
    · rw [if_pos h2, Lib.decDigits, dif_pos (by omega)]; rfl
    · rw [if_neg h2, Lib.decDigits, dif_neg (by omega), Lib.decDigits, dif_pos (by omega)]; rfl
theorem d3_fin : ∀ n : Fin 122, Lib.atoi (d3 n.val) = some (n.val : Int) ∧ (d3 n.val).all (fun b => decide (48 ≤ b.toNat) && decide (b.toNat ≤ 57)) = true ∧ (d3 n.val).length ≤ 3 := by decide +kernel
theorem num_good {n : Int} (h0 : 0 ≤ n) (h1 : n ≤ 121) : Lib.atoi (num n) = some n ∧ (∀ b ∈ num n, 48 ≤ b.toNat ∧ b.toNat ≤ 57) ∧ (num n).length ≤ 3 := by
  obtain ⟨k, rfl⟩ := Int.eq_ofNat_of_zero_le h0
  obtain ⟨q1, q2, q3⟩ := d3_fin ⟨k, by omega⟩
  rw [show ((k : Int)) = (k : Int) from rfl, num_d3 (by omega)]
  refine ⟨q1, fun b hb => ?_, q3⟩
  rw [List.all_eq_true] at q2
  simpa using q2 b hb
theorem num_not {n : Int} (h0 : 0 ≤ n) (h1 : n ≤ 121) {c : UInt8} (hc : c.toNat < 48 ∨ 57 < c.toNat) : c ∉ num n := fun h => by
  have := (num_good h0 h1).2.1 c h
  omega
/-- what number reads ahead of a mark -/
theorem cut_num {n : Int} (h0 : 0 ≤ n) (h1 : n ≤ 121) {c : UInt8} {t r : List UInt8} (hc : c.toNat < 48 ∨ 57 < c.toNat) : Lib.cut (num n ++ ((c :: t) ++ r)) (c :: t) = (num n, r, true) := cut_at (num_not h0 h1 hc)
end Go.Proofs.YtppmhjaooiameaaDoor
