/- The table of an alignment as a list of numbers. No program in sight. -/
import Derived.Test.YthacjpemeaekdaaDiffTab
namespace Go.Proofs.Ythacjpemeaekdaa

/-- rows from k on are filled, the last column is, and of row k - 1 the columns from m on -/
def FillL (a b : List ByteArray) (k m : Nat) (L : List Int) : Prop :=
  L.length = (a.length + 1) * (b.length + 1) ∧
  ∀ r c, r ≤ a.length → c ≤ b.length → (k ≤ r ∨ c = b.length ∨ (r + 1 = k ∧ m ≤ c)) →
    L[r * (b.length + 1) + c]? = some (lcs (a.drop r) (b.drop c) : Int)
theorem FillL.start (a b : List ByteArray) (n : Nat) (hn : n = (a.length + 1) * (b.length + 1)) : FillL a b a.length b.length (List.replicate n 0) := by
  refine ⟨by simpa using hn, fun r c hr hc hd => ?_⟩
  rw [List.getElem?_replicate, if_pos (by rw [hn]; exact idx_lt _ _ _ _ hr (by omega))]
  have : lcs (a.drop r) (b.drop c) = 0 := by
    rcases hd with h | h | h
    · rw [List.drop_eq_nil_of_le h]; rfl
    · rw [List.drop_eq_nil_of_le (i := c) (by omega), lcs_nil_r]
    · rw [List.drop_eq_nil_of_le (i := c) (by omega), lcs_nil_r]
  rw [this]; rfl
theorem FillL.step {a b : List ByteArray} {k m : Nat} {L : List Int} (h : FillL a b (k + 1) (m + 1) L) (hk : k < a.length) (hm : m < b.length) (v : Int) (hv : v = (lcs (a.drop k) (b.drop m) : Nat)) (q : Nat) (hq : q = k * (b.length + 1) + m) :
    FillL a b (k + 1) m (L.set q v) := by
  subst hq
  refine ⟨by simpa using h.1, fun r c hr hc hd => ?_⟩
  rw [List.getElem?_set]
  by_cases e : k * (b.length + 1) + m = r * (b.length + 1) + c
  · obtain ⟨rfl, rfl⟩ := idx_inj _ _ _ _ _ (by omega) (by omega) e
    rw [if_pos rfl, if_pos (by rw [h.1]; exact idx_lt _ _ _ _ hr (by omega)), hv]
  · rw [if_neg e]
    refine h.2 r c hr hc ?_
    rcases hd with h1 | h1 | ⟨h1, h2⟩
    · exact .inl h1
    · exact .inr (.inl h1)
    · refine .inr (.inr ⟨h1, ?_⟩)
      rcases Nat.lt_or_ge m c with h3 | h3
      · exact h3
      · obtain rfl : c = m := by omega
        obtain rfl : r = k := by omega
        exact absurd rfl e
theorem FillL.row {a b : List ByteArray} {k : Nat} {L : List Int} (h : FillL a b (k + 1) 0 L) : FillL a b k b.length L := by
  refine ⟨h.1, fun r c hr hc hd => h.2 r c hr hc ?_⟩
  rcases hd with h1 | h1 | ⟨h1, h2⟩
  · rcases Nat.lt_or_ge k r with h3 | h3
    · exact .inl h3
    · exact .inr (.inr ⟨by omega, Nat.zero_le _⟩)
  · exact .inr (.inl h1)
  · exact .inr (.inl (by omega))
theorem FillL.at {a b : List ByteArray} {k m : Nat} {L : List Int} (h : FillL a b k m L) (r c : Nat) (hr : r ≤ a.length) (hc : c ≤ b.length) (hd : k ≤ r ∨ c = b.length ∨ (r + 1 = k ∧ m ≤ c)) (q : Nat) (hq : q = r * (b.length + 1) + c) (d : Int) :
    L.getD q d = (lcs (a.drop r) (b.drop c) : Nat) := by
  subst hq; rw [List.getD_eq_getElem?_getD, h.2 r c hr hc hd]; rfl
/-- an index of the table, as the program computes it -/
theorem idx_toNat (r c W : Nat) (x y z : Int) (hx : x = r) (hy : y = W) (hz : z = c) : (x * y + z).toNat = r * W + c := by
  subst hx; subst hy; subst hz
  rw [← Int.natCast_mul, ← Int.natCast_add, Int.toNat_natCast]
theorem idx_in (r c lb la : Nat) (hr : r ≤ la) (hc : c ≤ lb) (hla : la ≤ 120) (hlb : lb ≤ 120) (x y z : Int) (hx : x = r) (hy : y = lb + 1) (hz : z = c) : 0 ≤ x * y ∧ x * y ≤ 14641 ∧ x * y + z < (la + 1) * (lb + 1) ∧ 0 ≤ x * y + z := by
  subst hx; subst hy; subst hz
  have h1 := idx_lt (lb + 1) r c la hr (by omega)
  have h2 : r * (lb + 1) ≤ 120 * 121 := Nat.mul_le_mul (by omega) (by omega)
  have e1 : (r : Int) * ((lb : Int) + 1) = ((r * (lb + 1) : Nat) : Int) := by push_cast; rfl
  have e2 : ((la : Int) + 1) * ((lb : Int) + 1) = (((la + 1) * (lb + 1) : Nat) : Int) := by push_cast; rfl
  rw [e1, e2]
  omega
theorem getD_int (l : List Int) {q : Nat} (h : q < l.length) (d : Int := 0) : l.getD ((q : Int)).toNat d = l[q] := by
  rw [Int.toNat_natCast, List.getD_eq_getElem?_getD, List.getElem?_eq_getElem h]; rfl
end Go.Proofs.Ythacjpemeaekdaa
