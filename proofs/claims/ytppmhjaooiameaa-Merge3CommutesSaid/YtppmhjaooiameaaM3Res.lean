/- Chunks as plain data: their check, the texts that result of choices. No program in sight. -/
import Derived.Test.YtppmhjaooiameaaM3Pure
namespace Go.Proofs.Ytppmhjaooiameaa
open Go.RowKit

def chBad (c : Ch) : Prop := (c.1 = true ∧ 0 < c.2.1.length) ∨ (c.1 = false ∧ (c.2.1.length = 0 ∨ 0 < c.2.2.1.length + c.2.2.2.1.length + c.2.2.2.2.length))
instance (c : Ch) : Decidable (chBad c) := by unfold chBad; infer_instance
def chC (c : Ch) : Int :=
  if vC c.2.1 ≠ 0 then vC c.2.1 else if vC c.2.2.1 ≠ 0 then vC c.2.2.1 else if vC c.2.2.2.1 ≠ 0 then vC c.2.2.2.1 else if vC c.2.2.2.2 ≠ 0 then vC c.2.2.2.2 else
  if chBad c then 5 else 0
def csC : List Ch → Int
  | [] => 0
  | c :: l => if chC c = 0 then csC l else chC c
def csI : Int → List Ch → Int
  | _, [] => 0
  | i, c :: l => if chC c = 0 then csI (i + 1) l else i
def ckC (l : List Ch) : Int := if 240 < l.length then 2 else csC l
def ckI (l : List Ch) : Int := if 240 < l.length then -1 else csI 0 l
theorem csC_step {l : List Ch} {k : Nat} (h : k < l.length) : csC (l.drop k) = if chC l[k] = 0 then csC (l.drop (k + 1)) else chC l[k] := by rw [List.drop_eq_getElem_cons h]; rfl
theorem csI_step {l : List Ch} {k : Nat} (h : k < l.length) (i : Int) : csI i (l.drop k) = if chC l[k] = 0 then csI (i + 1) (l.drop (k + 1)) else i := by rw [List.drop_eq_getElem_cons h]; rfl
theorem csI_good : ∀ (l : List Ch) (i : Int), csC l = 0 → csI i l = 0
  | [], _, _ => rfl
  | c :: l, i, h => by
    unfold csC at h
    unfold csI
    split
    · rename_i q; rw [if_pos q] at h; exact csI_good l _ h
    · rename_i q; rw [if_neg q] at h; exact absurd h q
theorem ckI_good (l : List Ch) (h : ckC l = 0) : ckI l = 0 := by
  unfold ckC at h
  unfold ckI
  split
  · rename_i q; rw [if_pos q] at h; exact absurd h (by decide)
  · rename_i q; rw [if_neg q] at h; exact csI_good l _ h
theorem csC_all : ∀ {l : List Ch}, csC l = 0 ↔ ∀ c ∈ l, chC c = 0
  | [] => ⟨fun _ c h => (by cases h), fun _ => rfl⟩
  | c :: l => by
    unfold csC
    constructor
    · intro h
      split at h
      · rename_i q
        intro d hd
        rcases List.mem_cons.1 hd with rfl | hd
        · exact q
        · exact csC_all.1 h d hd
      · rename_i q; exact absurd h q
    · intro h
      rw [if_pos (h c List.mem_cons_self)]
      exact csC_all.2 fun d hd => h d (List.mem_cons_of_mem _ hd)
theorem ckC_all {l : List Ch} : ckC l = 0 ↔ l.length ≤ 240 ∧ ∀ c ∈ l, chC c = 0 := by
  unfold ckC
  constructor
  · intro h
    split at h
    · exact absurd h (by decide)
    · exact ⟨by omega, csC_all.1 h⟩
  · rintro ⟨h1, h2⟩
    rw [if_neg (by omega)]
    exact csC_all.2 h2
theorem chC_good {c : Ch} : chC c = 0 ↔ vC c.2.1 = 0 ∧ vC c.2.2.1 = 0 ∧ vC c.2.2.2.1 = 0 ∧ vC c.2.2.2.2 = 0 ∧ ¬ chBad c := by
  unfold chC
  constructor
  · intro h
    split at h
    · contradiction
    split at h
    · contradiction
    split at h
    · contradiction
    split at h
    · contradiction
    split at h
    · exact absurd h (by decide)
    rename_i a b c' d e
    exact ⟨Classical.not_not.1 a, Classical.not_not.1 b, Classical.not_not.1 c', Classical.not_not.1 d, e⟩
  · rintro ⟨a, b, c', d, e⟩
    rw [if_neg (fun z => z a), if_neg (fun z => z b), if_neg (fun z => z c'), if_neg (fun z => z d), if_neg e]
/-- how many conflicts -/
def nCf : List Ch → Nat
  | [] => 0
  | c :: l => (bif c.1 then 1 else 0) + nCf l
theorem nCf_append : ∀ (l m : List Ch), nCf (l ++ m) = nCf l + nCf m
  | [], m => by simp [nCf]
  | c :: l, m => by simp only [List.cons_append, nCf, nCf_append l m]; omega
theorem nCf_take {l : List Ch} {k : Nat} (h : k < l.length) : nCf (l.take (k + 1)) = nCf (l.take k) + (bif l[k].1 then 1 else 0) := by
  rw [List.take_add_one, List.getElem?_eq_getElem h, Option.toList_some, nCf_append]; simp [nCf]
theorem nCf_le (l : List Ch) (k : Nat) : nCf (l.take k) ≤ nCf l := by
  have := nCf_append (l.take k) (l.drop k)
  rw [List.take_append_drop] at this
  omega
theorem nCf_len : ∀ l : List Ch, nCf l ≤ l.length
  | [] => Nat.le_refl _
  | c :: l => by
    have := nCf_len l
    unfold nCf
    rw [List.length_cons]
    cases c.1 <;> simp <;> omega
def pickC (c : Ch) (n : Int) : List ByteArray := if n = 0 then c.2.2.1 else if n = 1 then c.2.2.2.1 else if n = 2 then c.2.2.2.2 else c.2.2.2.1 ++ c.2.2.2.2
def rsN : List Ch → List Int → List ByteArray
  | [], _ => []
  | c :: l, ch => bif c.1 then pickC c (ch.getD 0 0) ++ rsN l (ch.drop 1) else c.2.1 ++ rsN l ch
theorem rsN_yes {l : List Ch} {k j : Nat} (h : k < l.length) (hc : l[k].1 = true) (ch : List Int) : rsN (l.drop k) (ch.drop j) = pickC l[k] (ch.getD j 0) ++ rsN (l.drop (k + 1)) (ch.drop (j + 1)) := by
  rw [List.drop_eq_getElem_cons h]
  show (bif l[k].1 then pickC l[k] ((ch.drop j).getD 0 0) ++ rsN (l.drop (k + 1)) ((ch.drop j).drop 1) else _) = _
  rw [hc, cond_true, List.drop_drop]
  congr 2
  rw [List.getD_eq_getElem?_getD, List.getD_eq_getElem?_getD, List.getElem?_drop, Nat.add_zero]
theorem rsN_no {l : List Ch} {k : Nat} (h : k < l.length) (hc : l[k].1 = false) (ch : List Int) : rsN (l.drop k) ch = l[k].2.1 ++ rsN (l.drop (k + 1)) ch := by
  rw [List.drop_eq_getElem_cons h]
  show (bif l[k].1 then _ else _) = _
  rw [hc]; rfl
/-- the first choice that is none -/
def badI : Nat → List Int → Option Nat
  | _, [] => none
  | i, n :: l => if n < 0 ∨ 3 < n then some i else badI (i + 1) l
theorem badI_step {l : List Int} {k : Nat} (h : k < l.length) (i : Nat) : badI i (l.drop k) = if l[k] < 0 ∨ 3 < l[k] then some i else badI (i + 1) (l.drop (k + 1)) := by rw [List.drop_eq_getElem_cons h]; rfl
theorem badI_none : ∀ {l : List Int} {i : Nat}, badI i l = none ↔ ∀ n ∈ l, 0 ≤ n ∧ n ≤ 3
  | [], i => ⟨fun _ n h => (by cases h), fun _ => rfl⟩
  | n :: l, i => by
    unfold badI
    constructor
    · intro h
      split at h
      · cases h
      · rename_i q
        intro m hm
        rcases List.mem_cons.1 hm with rfl | hm
        · omega
        · exact badI_none.1 h m hm
    · intro h
      have := h n List.mem_cons_self
      rw [if_neg (by omega)]
      exact badI_none.2 fun m hm => h m (List.mem_cons_of_mem _ hm)
/-- what Resolve answers: code, index, text -/
def rsF (l : List Ch) (ch : List Int) : Int × Int :=
  if ckC l ≠ 0 then (ckC l, ckI l) else if ch.length ≠ nCf l then (9, -2) else match badI 0 ch with
  | some i => (3, -3 - (i : Int))
  | none => if 120 < (rsN l ch).length then (10, -1) else (0, 0)
def rsL (l : List Ch) (ch : List Int) : List ByteArray := if (rsF l ch).1 = 0 then rsN l ch else []
/-- what Clean answers -/
def clF (l : List Ch) : Int × Int := if ckC l ≠ 0 then (ckC l, ckI l) else if nCf l ≠ 0 then (0, 0) else if 120 < (rsN l []).length then (10, -1) else (0, 0)
def clOk (l : List Ch) : Bool := decide (ckC l = 0) && decide (nCf l = 0) && decide ((rsN l []).length ≤ 120)
def clL (l : List Ch) : List ByteArray := if clOk l = true then rsN l [] else []
theorem pickC_len {c : Ch} (h : chC c = 0) (n : Int) : (pickC c n).length ≤ 240 ∧ c.2.1.length ≤ 120 ∧ c.2.2.1.length ≤ 120 ∧ c.2.2.2.1.length ≤ 120 ∧ c.2.2.2.2.length ≤ 120 := by
  obtain ⟨h1, h2, h3, h4, -⟩ := chC_good.1 h
  have l1 := vC_len _ h1
  have l2 := vC_len _ h2
  have l3 := vC_len _ h3
  have l4 := vC_len _ h4
  refine ⟨?_, l1, l2, l3, l4⟩
  unfold pickC
  split
  · omega
  split
  · omega
  split
  · omega
  · rw [List.length_append]; omega
end Go.Proofs.Ytppmhjaooiameaa
