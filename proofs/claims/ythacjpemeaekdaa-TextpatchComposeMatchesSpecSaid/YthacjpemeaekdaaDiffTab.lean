/- The table of an alignment: what has been filled. No program in sight. -/
import Derived.Test.YthacjpemeaekdaaDiffPure
namespace Go.Proofs.Ythacjpemeaekdaa

theorem idx_inj (W r c r' c' : Nat) (hc : c < W) (hc' : c' < W) (h : r * W + c = r' * W + c') : r = r' ∧ c = c' := by
  have h1 : (r * W + c) / W = r := by rw [Nat.mul_comm, Nat.mul_add_div (by omega)]; rw [Nat.div_eq_of_lt hc]; omega
  have h2 : (r' * W + c') / W = r' := by rw [Nat.mul_comm, Nat.mul_add_div (by omega)]; rw [Nat.div_eq_of_lt hc']; omega
  have h3 : r = r' := by rw [← h1, ← h2, h]
  subst h3
  exact ⟨rfl, by omega⟩

theorem idx_lt (W r c la : Nat) (hr : r ≤ la) (hc : c < W) : r * W + c < (la + 1) * W := by
  have : r * W ≤ la * W := Nat.mul_le_mul_right _ hr
  rw [Nat.add_mul]; omega

/-- rows from k on are filled, the last column is, and of row k - 1 the columns from m on -/
def Fill (a b : List ByteArray) (k m : Nat) (arr : Array Value) : Prop :=
  arr.size = (a.length + 1) * (b.length + 1) ∧
  ∀ r c, r ≤ a.length → c ≤ b.length → (k ≤ r ∨ c = b.length ∨ (r + 1 = k ∧ m ≤ c)) →
    arr[r * (b.length + 1) + c]? = some (.int .i64 (lcs (a.drop r) (b.drop c) : Nat))

theorem Fill.at {a b : List ByteArray} {k m : Nat} {arr : Array Value} (h : Fill a b k m arr) (r c : Nat) (hr : r ≤ a.length) (hc : c ≤ b.length) (hd : k ≤ r ∨ c = b.length ∨ (r + 1 = k ∧ m ≤ c)) :
    arr[r * (b.length + 1) + c]? = some (.int .i64 (lcs (a.drop r) (b.drop c) : Nat)) := h.2 r c hr hc hd

theorem Fill.start (a b : List ByteArray) (arr : Array Value) (hs : arr.size = (a.length + 1) * (b.length + 1)) (hz : ∀ i, i < arr.size → arr[i]? = some (.int .i64 0)) : Fill a b a.length b.length arr := by
  refine ⟨hs, fun r c hr hc hd => ?_⟩
  rw [hz _ (by rw [hs]; exact idx_lt _ _ _ _ hr (by omega))]
  have : lcs (a.drop r) (b.drop c) = 0 := by
    rcases hd with h | h | h
    · rw [List.drop_eq_nil_of_le h]; rfl
    · rw [List.drop_eq_nil_of_le (i := c) (by omega), lcs_nil_r]
    · rw [List.drop_eq_nil_of_le (i := c) (by omega), lcs_nil_r]
  rw [this]; rfl

theorem Fill.step {a b : List ByteArray} {k m : Nat} {arr : Array Value} (h : Fill a b (k + 1) (m + 1) arr) (hk : k < a.length) (hm : m < b.length) (v : Int) (hv : v = (lcs (a.drop k) (b.drop m) : Nat)) :
    Fill a b (k + 1) m (arr.setIfInBounds (k * (b.length + 1) + m) (.int .i64 v)) := by
  refine ⟨by simpa using h.1, fun r c hr hc hd => ?_⟩
  rw [Array.getElem?_setIfInBounds]
  by_cases e : k * (b.length + 1) + m = r * (b.length + 1) + c
  · obtain ⟨rfl, rfl⟩ := idx_inj _ _ _ _ _ (by omega) (by omega) e
    rw [if_pos rfl, if_pos (by rw [h.1]; exact idx_lt _ _ _ _ hr (by omega)), hv]
  · rw [if_neg e]
    refine h.2 r c hr hc ?_
    rcases hd with h1 | h1 | ⟨h1, h2⟩
    · exact .inl h1
    · exact .inr (.inl h1)
    · refine .inr (.inr ⟨h1, ?_⟩)
      rcases Nat.lt_or_ge m c with h3 | h3
      · exact h3
      · obtain rfl : c = m := by omega
        obtain rfl : r = k := by omega
        exact absurd rfl e

theorem Fill.row {a b : List ByteArray} {k : Nat} {arr : Array Value} (h : Fill a b (k + 1) 0 arr) : Fill a b k b.length arr := by
  refine ⟨h.1, fun r c hr hc hd => h.2 r c hr hc ?_⟩
  rcases hd with h1 | h1 | ⟨h1, h2⟩
  · rcases Nat.lt_or_ge k r with h3 | h3
    · exact .inl h3
    · exact .inr (.inr ⟨by omega, Nat.zero_le _⟩)
  · exact .inr (.inl h1)
  · exact .inr (.inl (by omega))

theorem drop_lcs (a b : List ByteArray) (k m : Nat) (hk : k < a.length) (hm : m < b.length) :
    lcs (a.drop k) (b.drop m) = if a[k] = b[m] then lcs (a.drop (k + 1)) (b.drop (m + 1)) + 1 else max (lcs (a.drop (k + 1)) (b.drop m)) (lcs (a.drop k) (b.drop (m + 1))) := by
  rw [List.drop_eq_getElem_cons hk, List.drop_eq_getElem_cons hm, lcs_cons]

theorem drop_align (a b : List ByteArray) (k m : Nat) (hk : k < a.length) (hm : m < b.length) :
    align (a.drop k) (b.drop m) = if a[k] = b[m] then 0 :: align (a.drop (k + 1)) (b.drop (m + 1)) else if lcs (a.drop k) (b.drop (m + 1)) ≤ lcs (a.drop (k + 1)) (b.drop m) then 1 :: align (a.drop (k + 1)) (b.drop m) else 2 :: align (a.drop k) (b.drop (m + 1)) := by
  rw [List.drop_eq_getElem_cons hk, List.drop_eq_getElem_cons hm, align_cons]
theorem drop_align_del (a b : List ByteArray) (k : Nat) (hk : k < a.length) : align (a.drop k) (b.drop b.length) = 1 :: align (a.drop (k + 1)) (b.drop b.length) := by
  rw [List.drop_eq_getElem_cons hk, List.drop_length, align_del]
theorem drop_align_ins (a b : List ByteArray) (m : Nat) (hm : m < b.length) : align (a.drop a.length) (b.drop m) = 2 :: align (a.drop a.length) (b.drop (m + 1)) := by
  rw [List.drop_eq_getElem_cons hm, List.drop_length, align_ins]
end Go.Proofs.Ythacjpemeaekdaa
