/- The lines of a text, its joining: what the laws say of them. No program in sight. -/
import Derived.Test.YtehdgnnelabajaaWxSplit
namespace Go.Proofs.Ytehdgnnelabajaa
open Go.RowKit

/-- bytes as a text -/
def toB (l : List UInt8) : ByteArray := ⟨l.toArray⟩
theorem toB_data (l : List UInt8) : (toB l).data.toList = l := rfl
theorem toB_of (s : ByteArray) : toB s.data.toList = s := rfl
theorem toB_size (l : List UInt8) : (toB l).size = l.length := rfl
theorem ba_ext {s t : ByteArray} (h : s.data.toList = t.data.toList) : s = t := by
  rcases s with ⟨⟨s⟩⟩
  rcases t with ⟨⟨t⟩⟩
  have h : s = t := h
  rw [h]
theorem extract_list (s : ByteArray) (a b : Nat) : (s.extract a b).data.toList = (s.data.toList.take b).drop a := by
  rw [ByteArray.data_extract, Array.toList_extract, List.extract_eq_take_drop, List.drop_take]
theorem indexByte_at {a b : List UInt8} (h : (10 : UInt8) ∉ a) : Lib.indexByte (a ++ 10 :: b) 10 = a.length := by
  induction a with
  | nil => simp [Lib.indexByte]
  | cons x a ih =>
    have h1 : x ≠ 10 := fun e => h (by simp [e])
    have h2 := ih fun q => h (by simp [q])
    have h3 : (x == 10) = false := by simpa using h1
    rw [List.cons_append, Lib.indexByte, h3, h2, List.length_cons]
    have h4 : ((a.length : Int) == -1) = false := beq_eq_false_iff_ne.2 (by omega)
    rw [h4]
    simp
theorem indexByte_none {a : List UInt8} (h : (10 : UInt8) ∉ a) : Lib.indexByte a 10 = -1 := by
  have h1 := indexByte_mem a 10
  have h2 := Lib.indexByte_ge a 10
  have h3 : ¬ 0 ≤ Lib.indexByte a 10 := fun q => h (h1.1 q)
  omega
theorem cutA_at {a b : List UInt8} (h : (10 : UInt8) ∉ a) : cutA (toB (a ++ 10 :: b)) = toB a := by
  have h1 : nlIx (toB (a ++ 10 :: b)) = a.length := indexByte_at h
  unfold cutA
  rw [if_pos (by rw [h1]; omega), h1]
  apply ba_ext
  rw [extract_list, toB_data, toB_data]
  simp
theorem cutB_at {a b : List UInt8} (h : (10 : UInt8) ∉ a) : cutB (toB (a ++ 10 :: b)) = toB b := by
  have h1 : nlIx (toB (a ++ 10 :: b)) = a.length := indexByte_at h
  unfold cutB
  rw [if_pos (by rw [h1]; omega), h1]
  apply ba_ext
  rw [extract_list, toB_data, toB_data, toB_size]
  have e : ((a.length : Int) + 1).toNat = a.length + 1 := by omega
  rw [e, List.take_length]
  simp
theorem cutA_none {a : List UInt8} (h : (10 : UInt8) ∉ a) : cutA (toB a) = toB a := by
  have h1 : nlIx (toB a) = -1 := indexByte_none h
  unfold cutA
  rw [if_neg (by rw [h1]; decide)]
theorem cutB_none {a : List UInt8} (h : (10 : UInt8) ∉ a) : cutB (toB a) = toB [] := by
  have h1 : nlIx (toB a) = -1 := indexByte_none h
  unfold cutB
  rw [if_neg (by rw [h1]; decide)]
  rfl
/-- the lines of bytes -/
def lns (b : List UInt8) : List ByteArray := pcs (toB b)
theorem lns_nil : lns [] = [] := pcs_nil rfl
theorem lns_at {a b : List UInt8} (h : (10 : UInt8) ∉ a) : lns (a ++ 10 :: b) = toB a :: lns b := by
  unfold lns
  rw [pcs_step (by rw [toB_size]; simp), cutA_at h, cutB_at h]
theorem lns_last {a : List UInt8} (h : (10 : UInt8) ∉ a) (h0 : a ≠ []) : lns a = [toB a] := by
  unfold lns
  rw [pcs_step (by rw [toB_size]; exact fun e => h0 (List.length_eq_zero_iff.1 e)), cutA_none h, cutB_none h]
  show toB a :: lns [] = _
  rw [lns_nil]
/-- bytes are nothing, or the last line, or a line and a newline and what follows -/
theorem bytes_cases (b : List UInt8) : b = [] ∨ (b ≠ [] ∧ (10 : UInt8) ∉ b) ∨ ∃ a c, b = a ++ 10 :: c ∧ (10 : UInt8) ∉ a := by
  induction b with
  | nil => exact .inl rfl
  | cons x b ih =>
    by_cases hx : x = 10
    · exact .inr (.inr ⟨[], b, by simp [hx], by simp⟩)
    · rcases ih with rfl | ⟨h1, h2⟩ | ⟨a, c, h1, h2⟩
      · exact .inr (.inl ⟨by simp, by simpa using fun e => hx e.symm⟩)
      · exact .inr (.inl ⟨by simp, by simpa using ⟨fun e => hx e.symm, h2⟩⟩)
      · exact .inr (.inr ⟨x :: a, c, by simp [h1], by simpa using ⟨fun e => hx e.symm, h2⟩⟩)
theorem lns_join (l : List ByteArray) (b : List UInt8) (h : ∀ s ∈ l, (10 : UInt8) ∉ s.data.toList) : lns (joinL l ++ b) = l ++ lns b := by
  induction l with
  | nil => rfl
  | cons s l ih =>
    rw [joinL_cons, List.append_assoc, List.cons_append, lns_at (h s (by simp)), ih fun q hq => h q (by simp [hq]), toB_of]
    rfl
/-- a newline at the end, where there is none and the text is not empty -/
def nlEnd (b : List UInt8) : List UInt8 := if b = [] ∨ b.getLast? = some 10 then b else b ++ [10]
theorem nlEnd_at (a b : List UInt8) : nlEnd (a ++ 10 :: b) = a ++ 10 :: nlEnd b := by
  unfold nlEnd
  by_cases hb : b = []
  · subst hb
    rw [if_pos (.inr (by simp)), if_pos (.inl rfl)]
  · have e : (a ++ 10 :: b).getLast? = b.getLast? := by
      rw [List.getLast?_append, List.getLast?_cons_of_ne_nil hb, List.getLast?_eq_some_getLast hb]
      rfl
    rw [e]
    by_cases h1 : b.getLast? = some 10
    · rw [if_pos (.inr h1), if_pos (.inr h1)]
    · rw [if_neg, if_neg]
      · simp
      · rintro (q | q)
        · exact hb q
        · exact h1 q
      · rintro (q | q)
        · simp at q
        · exact h1 q
theorem join_lns : ∀ (n : Nat) (b : List UInt8), b.length ≤ n → joinL (lns b) = nlEnd b
  | n, b, hn => by
    rcases bytes_cases b with rfl | ⟨h1, h2⟩ | ⟨a, c, rfl, h2⟩
    · rw [lns_nil]; rfl
    · rw [lns_last h2 h1, joinL_cons, toB_data, joinL_nil]
      unfold nlEnd
      rw [if_neg]
      rintro (q | q)
      · exact h1 q
      · exact h2 (List.mem_of_getLast? q)
    · rw [lns_at h2, joinL_cons, toB_data, nlEnd_at]
      match n, hn with
      | 0, hn => simp at hn
      | n + 1, hn => rw [join_lns n c (by simp at hn; omega)]
theorem lns_clean : ∀ (n : Nat) (b : List UInt8), b.length ≤ n → ∀ s ∈ lns b, (10 : UInt8) ∉ s.data.toList
  | n, b, hn, s, hs => by
    rcases bytes_cases b with rfl | ⟨h1, h2⟩ | ⟨a, c, rfl, h2⟩
    · rw [lns_nil] at hs; cases hs
    · rw [lns_last h2 h1] at hs
      rw [List.mem_singleton.1 hs]
      exact h2
    · rw [lns_at h2] at hs
      rcases List.mem_cons.1 hs with rfl | hs
      · exact h2
      · match n, hn with
        | 0, hn => simp at hn
        | n + 1, hn => exact lns_clean n c (by simp at hn; omega) s hs
/-- what the laws use: of Join and Split -/
theorem jC_zero {l : List ByteArray} (h : jC l = 0) : vC l = 0 ∧ (joinL l).length ≤ 4096 := by
  unfold jC at h
  split at h
  · rename_i h1
    split at h
    · cases h
    · exact ⟨h1, by omega⟩
  · rename_i h1; exact absurd h h1
theorem sC_zero {s : ByteArray} (h : sC s = 0) : vC (pcs s) = 0 ∧ s.size ≤ 4096 := by
  unfold sC at h
  split at h
  · cases h
  · exact ⟨h, by omega⟩
theorem sL_of {s : ByteArray} (h : sC s = 0) : sL s = pcs s := if_pos h
theorem jS_of {l : List ByteArray} (h : jC l = 0) : jS l = toB (joinL l) := if_pos h
theorem split_join {l : List ByteArray} (h : jC l = 0) : sC (jS l) = 0 ∧ sL (jS l) = l := by
  obtain ⟨h1, h2⟩ := jC_zero h
  have e : pcs (jS l) = l := by
    rw [jS_of h]
    have := lns_join l [] fun s hs => (((vC_good l).1 h1).2 s hs).2
    rw [lns_nil, List.append_nil, List.append_nil] at this
    exact this
  have hc : sC (jS l) = 0 := by
    unfold sC
    rw [if_neg, e, h1]
    rw [jS_of h, toB_size]
    omega
  exact ⟨hc, by rw [sL_of hc, e]⟩
theorem join_split {s : ByteArray} (h : sC s = 0) : joinL (sL s) = nlEnd s.data.toList ∧ vC (sL s) = 0 := by
  rw [sL_of h]
  exact ⟨join_lns s.data.toList.length s.data.toList (Nat.le_refl _), (sC_zero h).1⟩
theorem split_concat {a : List ByteArray} {s t : ByteArray} (ha : jC a = 0) (hs : sC s = 0) (ht : sC t = 0) (e : t.data.toList = joinL a ++ s.data.toList) : sL t = a ++ sL s := by
  obtain ⟨h1, -⟩ := jC_zero ha
  rw [sL_of ht, sL_of hs]
  have := lns_join a s.data.toList fun x hx => (((vC_good a).1 h1).2 x hx).2
  rw [← e] at this
  exact this
end Go.Proofs.Ytehdgnnelabajaa
