/- The table of ancestors, as plain data. -/
import Derived.Test.YtgdlbpihkodeoaaEvPure
namespace Go.Proofs.Ytgdlbpihkodeoaa
open Go.RowKit

/-- the ancestors of one commit -/
noncomputable def rowR (l : List Cm) (i : Nat) : List Bool := ancB l [(i : Int)]
theorem rowR_len (l : List Cm) (i : Nat) : (rowR l i).length = l.length := ancB_len _ _
theorem rowR_at {l : List Cm} {i k : Nat} (hk : k < l.length) : (rowR l i).getD k false = true ↔ Rch l i k := by
  unfold rowR ancB
  rw [setB_at hk]
  unfold Anc
  simp
noncomputable def tabR (l : List Cm) (n : Nat) : List (List Bool) := (List.range n).map (rowR l)
theorem tabR_len (l : List Cm) (n : Nat) : (tabR l n).length = n := by simp [tabR]
theorem tabR_at {l : List Cm} {n i : Nat} (h : i < n) : (tabR l n).getD i [] = rowR l i := by
  unfold tabR
  rw [List.getD_eq_getElem?_getD, List.getElem?_map, List.getElem?_range h]
  rfl
theorem tabR_next (l : List Cm) (n : Nat) : tabR l (n + 1) = tabR l n ++ [rowR l n] := by
  unfold tabR
  rw [List.range_succ, List.map_append]
  rfl
/-- a commit's ancestors are itself and those of its parents -/
theorem Rch.iff {l : List Cm} {i k : Nat} : Rch l i k ↔ k = i ∨ ∃ h : i < l.length, ∃ p ∈ l[i].1, Rch l p.toNat k := by
  constructor
  · intro h
    cases h with
    | refl => exact .inl rfl
    | step h hp hr => exact .inr ⟨h, _, hp, hr⟩
  · rintro (rfl | ⟨h, p, hp, hr⟩)
    · exact .refl _
    · exact .step h hp hr
def selfB (i : Nat) (c : Nat) : Bool := decide (c = i)
noncomputable def mixR (l : List Cm) (i k : Nat) : List Bool := mixB (selfB i) (fun c => (rowR l i).getD c false) l.length k
theorem mixR_end {l : List Cm} (hl : ParOk l) (i : Nat) : mixR l i i = rowR l i := by
  have h : mixR l i i = tabB (fun c => (rowR l i).getD c false) (rowR l i).length := by
    rw [rowR_len]
    unfold mixR mixB
    apply tabB_congr
    intro c hc
    split
    · rfl
    · rename_i hci
      rw [Bool.eq_iff_iff, rowR_at hc]
      unfold selfB
      rw [decide_eq_true_eq]
      constructor
      · rintro rfl; exact .refl _
      · intro h; have := h.le hl; omega
  rw [h, tabB_of]
theorem mixR_0 {l : List Cm} {i : Nat} : (List.replicate l.length false).set i true = mixR l i 0 := by
  unfold mixR
  rw [mixB_0]
  apply List.ext_getElem
  · rw [List.length_set, List.length_replicate, tabB_len]
  · intro c h1 h2
    rw [tabB_get, List.getElem_set]
    unfold selfB
    by_cases e : i = c
    · rw [if_pos e, decide_eq_true e.symm]
    · rw [if_neg e, List.getElem_replicate, decide_eq_false (fun q => e q.symm)]
theorem mixR_len (l : List Cm) (i k : Nat) : (mixR l i k).length = l.length := mixB_len _ _ _ _
/-- whether one of these reaches k -/
noncomputable def orR (l : List Cm) (k : Nat) (ps : List Int) : Bool := ps.any fun p => (rowR l p.toNat).getD k false
theorem orR_take {l : List Cm} {k q : Nat} {ps : List Int} (hq : q < ps.length) : orR l k (ps.take (q + 1)) = (orR l k (ps.take q) || (rowR l ps[q].toNat).getD k false) := by
  unfold orR
  rw [List.take_add_one, List.getElem?_eq_getElem hq, Option.toList_some, List.any_append]
  simp
theorem orR_all {l : List Cm} {i k : Nat} (hi : i < l.length) (hk : k < i) : orR l k (l[i].1) = (rowR l i).getD k false := by
  unfold orR
  rw [Bool.eq_iff_iff, List.any_eq_true, rowR_at (by omega), Rch.iff]
  constructor
  · rintro ⟨p, hp, h⟩; exact .inr ⟨hi, p, hp, (rowR_at (by omega)).1 h⟩
  · rintro (h | ⟨_, p, hp, h⟩)
    · omega
    · exact ⟨p, hp, (rowR_at (by omega)).2 h⟩
/-- the row while the parents are asked for column k -/
noncomputable def colR (l : List Cm) (i k : Nat) (ps : List Int) : List Bool := (mixR l i k).set k (orR l k ps)
theorem colR_len (l : List Cm) (i k : Nat) (ps : List Int) : (colR l i k ps).length = l.length := by unfold colR; rw [List.length_set, mixR_len]
theorem colR_0 {l : List Cm} {i k : Nat} (hi : i < l.length) (hk : k < i) : colR l i k [] = mixR l i k := by
  unfold colR
  apply List.ext_getElem
  · rw [List.length_set]
  · intro c h1 h2
    rw [List.getElem_set]
    split
    · rename_i e
      subst e
      refine Eq.trans ?_ (tabB_get (fun c => if c < k then (rowR l i).getD c false else selfB i c) (n := l.length) (i := k) (by rw [tabB_len]; omega)).symm
      rw [if_neg (Nat.lt_irrefl _)]
      unfold selfB
      rw [decide_eq_false (by omega)]
      rfl
    · rfl
theorem colR_all {l : List Cm} {i k : Nat} (hi : i < l.length) (hk : k < i) : colR l i k (l[i].1) = mixR l i (k + 1) := by
  unfold colR
  rw [orR_all hi hk]
  exact mixB_set _ _
theorem colR_at {l : List Cm} {i k : Nat} {ps : List Int} (hk : k < l.length) : (colR l i k ps).getD k false = orR l k ps := by
  unfold colR
  rw [getD_set _ _ _ _ (by rw [mixR_len]; exact hk), if_pos rfl]
theorem colR_next {l : List Cm} {i k q : Nat} {ps : List Int} (hq : q < ps.length) : colR l i k (ps.take (q + 1)) = (colR l i k (ps.take q)).set k (orR l k (ps.take q) || (rowR l ps[q].toNat).getD k false) := by
  unfold colR
  rw [List.set_set, orR_take hq]
end Go.Proofs.Ytgdlbpihkodeoaa
