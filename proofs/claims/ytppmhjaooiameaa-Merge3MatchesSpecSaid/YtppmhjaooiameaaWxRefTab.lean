/- The walk of the reference's suffixes: the table of lengths, column by column. -/
import Derived.Test.YtppmhjaooiameaaSxTab
import Derived.Test.YtppmhjaooiameaaTabPure
import Derived.Test.YtppmhjaooiameaaLinPure
namespace Go.Proofs.Ytppmhjaooiameaa
open Go.RowKit
set_option maxRecDepth 10000
set_option linter.unusedSimpArgs false

/-- a column of the table -/
def colL (a b : List ByteArray) (j : Nat) : List Int := (List.range (a.length + 1)).map fun i => ((lcs (a.drop i) (b.drop j) : Nat) : Int)
def tabL (a b : List ByteArray) : List (List Int) := (List.range (b.length + 1)).map (colL a b)
theorem colL_len (a b : List ByteArray) (j : Nat) : (colL a b j).length = a.length + 1 := by unfold colL; rw [List.length_map, List.length_range]
theorem tabL_len (a b : List ByteArray) : (tabL a b).length = b.length + 1 := by unfold tabL; rw [List.length_map, List.length_range]
theorem colL_at (a b : List ByteArray) (j i : Nat) (h : i ≤ a.length) (d : Int) : (colL a b j).getD i d = ((lcs (a.drop i) (b.drop j) : Nat) : Int) := by
  rw [List.getD_eq_getElem?_getD, List.getElem?_eq_getElem (by rw [colL_len]; omega)]
  simp [colL]
theorem tabL_at (a b : List ByteArray) (j : Nat) (h : j ≤ b.length) (d : List Int) : (tabL a b).getD j d = colL a b j := by
  rw [List.getD_eq_getElem?_getD, List.getElem?_eq_getElem (by rw [tabL_len]; omega)]
  simp [tabL]
/-- a column that is filled from row `k` on -/
def colF (a b : List ByteArray) (j k : Nat) : List Int := List.replicate k 0 ++ (colL a b j).drop k
theorem colF_len (a b : List ByteArray) (j k : Nat) (h : k ≤ a.length + 1) : (colF a b j k).length = a.length + 1 := by unfold colF; rw [List.length_append, List.length_replicate, List.length_drop, colL_len]; omega
theorem colF_at (a b : List ByteArray) (j k i : Nat) (h : k ≤ i) (hi : i ≤ a.length) (d : Int) : (colF a b j k).getD i d = ((lcs (a.drop i) (b.drop j) : Nat) : Int) := by
  unfold colF
  rw [List.getD_eq_getElem?_getD, List.getElem?_append_right (by rw [List.length_replicate]; exact h), List.length_replicate, List.getElem?_drop, show k + (i - k) = i by omega, ← List.getD_eq_getElem?_getD, colL_at a b j i hi d]
theorem colF_start (a b : List ByteArray) (j : Nat) : colF a b j a.length = List.replicate (a.length + 1) 0 := by
  have : (colL a b j).drop a.length = [0] := by
    have hl : ((colL a b j).drop a.length).length = 1 := by rw [List.length_drop, colL_len]; omega
    obtain ⟨x, hx⟩ := List.length_eq_one_iff.1 hl
    rw [hx]
    have h0 := colL_at a b j a.length (Nat.le_refl _) 7
    have : ((colL a b j).drop a.length)[0]? = some x := by rw [hx]; rfl
    rw [List.getElem?_drop, Nat.add_zero] at this
    rw [List.getD_eq_getElem?_getD, this, List.drop_length] at h0
    rw [show x = ((lcs ([] : List ByteArray) (b.drop j) : Nat) : Int) from h0, lcs_nil_l]; rfl
  unfold colF
  rw [this, List.replicate_succ', ]
theorem colF_last (a b : List ByteArray) : colF a b b.length a.length = colL a b b.length := by
  rw [colF_start]
  refine List.ext_getElem (by rw [List.length_replicate, colL_len]) fun i h1 h2 => ?_
  rw [List.getElem_replicate]
  have := colL_at a b b.length i (by rw [colL_len] at h2; omega) 0
  rw [List.getD_eq_getElem?_getD, List.getElem?_eq_getElem h2, List.drop_length, lcs_nil_r] at this
  exact (show (colL a b b.length)[i] = 0 from this).symm
theorem colF_zero (a b : List ByteArray) (j : Nat) : colF a b j 0 = colL a b j := rfl
theorem colF_step (a b : List ByteArray) (j k : Nat) (h : k < a.length) : (colF a b j (k + 1)).set k ((lcs (a.drop k) (b.drop j) : Nat) : Int) = colF a b j k := by
  unfold colF
  have hd : (colL a b j).drop k = ((lcs (a.drop k) (b.drop j) : Nat) : Int) :: (colL a b j).drop (k + 1) := by
    have hk : k < (colL a b j).length := by rw [colL_len]; omega
    rw [List.drop_eq_getElem_cons hk]
    congr 1
    have := colL_at a b j k (by omega) 0
    rw [List.getD_eq_getElem?_getD, List.getElem?_eq_getElem hk] at this
    exact this
  rw [hd, List.replicate_succ', List.append_assoc, List.set_append_right _ _ (by rw [List.length_replicate]; exact Nat.le_refl _), List.length_replicate, Nat.sub_self]
  rfl
/-- what the reference takes as the largest -/
theorem lcs_max (a b : List ByteArray) (k m : Nat) (hk : k < a.length) (hm : m < b.length) (n : Nat) :
    (a[k] = b[m] → lcs (a.drop k) (b.drop m) = lcs (a.drop (k + 1)) (b.drop (m + 1)) + 1 ∧ lcs (a.drop k) (b.drop (m + 1)) ≤ lcs (a.drop (k + 1)) (b.drop (m + 1)) + 1 ∧ lcs (a.drop (k + 1)) (b.drop m) ≤ lcs (a.drop (k + 1)) (b.drop (m + 1)) + 1) ∧
    (¬ a[k] = b[m] → lcs (a.drop k) (b.drop m) = max (lcs (a.drop (k + 1)) (b.drop m)) (lcs (a.drop k) (b.drop (m + 1)))) := by
  rw [List.drop_eq_getElem_cons hk, List.drop_eq_getElem_cons hm, lcs_cons]
  constructor
  · intro h
    rw [if_pos h]
    exact ⟨rfl, (lcs_diag a[k] _ _).2, by have := (lcs_diag b[m] (a.drop (k + 1)) (b.drop (m + 1))).1; exact this⟩
  · intro h
    rw [if_neg h]
end Go.Proofs.Ytppmhjaooiameaa
