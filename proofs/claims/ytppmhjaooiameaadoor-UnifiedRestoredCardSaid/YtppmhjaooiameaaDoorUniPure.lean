/- Patches whose hunks may have moved, as plain data. No program in sight. -/
import Derived.Test.YtppmhjaooiameaaDoorApPure
namespace Go.Proofs.YtppmhjaooiameaaDoor
open Go.RowKit

def ofOk (t : List ByteArray) (h : Hk) (least d : Int) : Bool := decide (least ≤ h.1 + d) && occ t h.2.1 (h.1 + d)
def ofS (t : List ByteArray) (h : Hk) (least : Int) : Nat → Int → Option Int
  | 0, _ => none
  | m + 1, n => if ofOk t h least (-n) = true then some (-n) else if ofOk t h least n = true then some n else ofS t h least m (n + 1)
def ofD (t : List ByteArray) (h : Hk) (reach least : Int) : Option Int := ofS t h least (reach + 1).toNat 0
theorem ofS_bd (t : List ByteArray) (h : Hk) (least : Int) : ∀ (m : Nat) (n d : Int), 0 ≤ n → ofS t h least m n = some d → -(n + m) < d ∧ d < n + m ∧ ofOk t h least d = true
  | 0, _, _, _, e => by cases e
  | m + 1, n, d, h0, e => by
    unfold ofS at e
    split at e
    · cases e; rename_i q; exact ⟨by omega, by omega, q⟩
    split at e
    · cases e; rename_i q; exact ⟨by omega, by omega, q⟩
    · have := ofS_bd t h least m (n + 1) d (by omega) e
      exact ⟨by omega, by omega, this.2.2⟩
theorem ofD_bd {t : List ByteArray} {h : Hk} {reach least d : Int} (h0 : 0 ≤ reach) (e : ofD t h reach least = some d) : -reach ≤ d ∧ d ≤ reach ∧ ofOk t h least d = true := by
  have := ofS_bd t h least _ _ _ (Int.le_refl 0) e
  exact ⟨by omega, by omega, this.2.2⟩
/-- hunk by hunk: what is left to do from here -/
def fuO (t : List ByteArray) (reach : Int) : Int → List Hk → List Int
  | _, [] => []
  | least, h :: p => match ofD t h reach least with
    | none => []
    | some d => d :: fuO t reach (h.1 + d + h.2.1.length + 1) p
/-- the first hunk that finds no place -/
def fuM (t : List ByteArray) (reach : Int) : Nat → Int → List Hk → Option Nat
  | _, _, [] => none
  | i, least, h :: p => match ofD t h reach least with
    | none => some i
    | some d => fuM t reach (i + 1) (h.1 + d + h.2.1.length + 1) p
/-- the patch with its hunks moved -/
def fuP : List Hk → List Int → List Hk
  | h :: p, d :: l => (h.1 + d, h.2) :: fuP p l
  | p, [] => p
  | [], _ => []
def fuC (t : List ByteArray) (p : List Hk) (reach : Int) : Int × Int :=
  if pC p ≠ 0 then (pC p, pI p) else if vC t ≠ 0 then (vC t, -2) else if reach < 0 ∨ 120 < reach then (3, -3) else match fuM t reach 0 0 p with
    | some i => (19, (i : Int))
    | none => if 120 < (raw t t.length 0 (fuP p (fuO t reach 0 p))).length then (10, -1) else (0, 0)
def fuT (t : List ByteArray) (p : List Hk) (reach : Int) : List ByteArray := if (fuC t p reach).1 = 0 then raw t t.length 0 (fuP p (fuO t reach 0 p)) else []
def fuL (t : List ByteArray) (p : List Hk) (reach : Int) : List Int := if (fuC t p reach).1 = 0 then fuO t reach 0 p else []
/-! ### where the patch applies as it is -/
theorem of_zero {t : List ByteArray} {h : Hk} {reach least : Int} (h0 : 0 ≤ reach) (hl : least ≤ h.1) (ho : occ t h.2.1 h.1 = true) : ofD t h reach least = some 0 := by
  unfold ofD
  obtain ⟨m, hm⟩ : ∃ m, (reach + 1).toNat = m + 1 := ⟨reach.toNat, by omega⟩
  rw [hm]
  unfold ofS
  rw [show ofOk t h least (-0) = true from by
    unfold ofOk
    rw [show h.1 + -0 = h.1 by omega, ho, decide_eq_true hl]; rfl]
  rfl
theorem fu_exact {t : List ByteArray} {reach : Int} (h0 : 0 ≤ reach) : ∀ (p : List Hk) (least : Int) (i : Nat), ch (least - 1) p → (∀ h ∈ p, occ t h.2.1 h.1 = true) → fuO t reach least p = List.replicate p.length 0 ∧ fuM t reach i least p = none
  | [], _, _, _, _ => ⟨rfl, rfl⟩
  | h :: p, least, i, hc, ho => by
    have e := of_zero (reach := reach) h0 (show least ≤ h.1 by have := hc.1; omega) (ho h List.mem_cons_self)
    obtain ⟨i1, i2⟩ := fu_exact h0 p (h.1 + 0 + h.2.1.length + 1) (i + 1) (by
      have := hc.2
      unfold hkEnd at this
      rwa [show h.1 + 0 + (h.2.1.length : Int) + 1 - 1 = h.1 + h.2.1.length by omega]) (fun k hk => ho k (List.mem_cons_of_mem _ hk))
    unfold fuO fuM
    rw [e]
    dsimp only
    rw [i1, i2]
    exact ⟨rfl, rfl⟩
theorem fuP_zero : ∀ (p : List Hk), fuP p (List.replicate p.length 0) = p
  | [] => rfl
  | h :: p => by
    show (h.1 + 0, h.2) :: fuP p (List.replicate p.length 0) = _
    rw [fuP_zero p, Int.add_zero]
theorem exact_law {t : List ByteArray} {p : List Hk} {reach : Int} (h : (apF p t).1 = 0) (h1 : 0 ≤ reach) (h2 : reach ≤ 120) : fuC t p reach = (0, 0) ∧ fuT t p reach = apL p t ∧ fuL t p reach = List.replicate p.length 0 := by
  obtain ⟨a1, a2, a3, a4⟩ := apF_good h
  have hc : ch (0 - 1) p := (pC_iff.1 a1).2.1
  obtain ⟨e1, e2⟩ := fu_exact (t := t) h1 p 0 0 hc (missI_none p 0 a3)
  have hC : fuC t p reach = (0, 0) := by
    unfold fuC
    rw [if_neg (fun z => z a1), if_neg (fun z => z a2), if_neg (by omega), e2, e1, fuP_zero]
    exact if_neg (by omega)
  refine ⟨hC, ?_, ?_⟩
  · unfold fuT
    rw [hC, if_pos rfl, e1, fuP_zero]
    exact (if_pos h).symm
  · unfold fuL
    rw [hC, if_pos rfl, e1]
/-! ### what the walk needs -/
theorem fuP_len : ∀ (p : List Hk) (l : List Int), (fuP p l).length = p.length
  | [], [] => rfl
  | [], _ :: _ => rfl
  | _ :: _, [] => rfl
  | h :: p, d :: l => by show (fuP p l).length + 1 = p.length + 1; rw [fuP_len p l]
theorem fu_rawOk {t : List ByteArray} {r : Int} : ∀ (p : List Hk) (least low : Int) (i : Nat), (∀ h ∈ p, HkOk h) → 0 ≤ low → low ≤ least → low ≤ t.length → fuM t r i least p = none → rawOk t t.length low (fuP p (fuO t r least p))
  | [], least, low, i, _, h0, _, h2, _ => ⟨h0, h2, Int.le_refl _⟩
  | h :: p, least, low, i, hp, h0, h1, h2, hM => by
    unfold fuM at hM
    unfold fuO
    cases e : ofD t h r least with
    | none => rw [e] at hM; cases hM
    | some d =>
      rw [e] at hM
      dsimp only at hM ⊢
      obtain ⟨-, -, o3, o4⟩ := hp h List.mem_cons_self
      have hok : ofOk t h least d = true := by
        unfold ofD at e
        exact (ofS_bd t h least _ _ _ (Int.le_refl 0) e).2.2
      unfold ofOk occ at hok
      simp only [Bool.and_eq_true, decide_eq_true_eq] at hok
      obtain ⟨b1, ⟨⟨b2, b3⟩, b4⟩, -⟩ := hok
      refine ⟨h0, by show low ≤ h.1 + d; omega, b3, o3, o4, ?_⟩
      refine fu_rawOk p _ _ (i + 1) (fun k hk => hp k (List.mem_cons_of_mem _ hk)) ?_ ?_ ?_ hM
      · show 0 ≤ h.1 + d + (h.2.1.length : Int); omega
      · show h.1 + d + (h.2.1.length : Int) ≤ _; omega
      · show h.1 + d + (h.2.1.length : Int) ≤ _; omega
theorem fuO_step {t : List ByteArray} {r least d : Int} {p : List Hk} {k : Nat} (h : k < p.length) (e : ofD t p[k] r least = some d) : fuO t r least (p.drop k) = d :: fuO t r (p[k].1 + d + p[k].2.1.length + 1) (p.drop (k + 1)) := by
  rw [List.drop_eq_getElem_cons h]
  show (match ofD t p[k] r least with | none => [] | some d => d :: fuO t r (p[k].1 + d + p[k].2.1.length + 1) (p.drop (k + 1))) = _
  rw [e]
theorem fuM_step {t : List ByteArray} {r least d : Int} {p : List Hk} {k : Nat} (h : k < p.length) (e : ofD t p[k] r least = some d) (i : Nat) : fuM t r i least (p.drop k) = fuM t r (i + 1) (p[k].1 + d + p[k].2.1.length + 1) (p.drop (k + 1)) := by
  rw [List.drop_eq_getElem_cons h]
  show (match ofD t p[k] r least with | none => some i | some d => fuM t r (i + 1) (p[k].1 + d + p[k].2.1.length + 1) (p.drop (k + 1))) = _
  rw [e]
theorem fuM_stop {t : List ByteArray} {r least : Int} {p : List Hk} {k : Nat} (h : k < p.length) (e : ofD t p[k] r least = none) (i : Nat) : fuM t r i least (p.drop k) = some i := by
  rw [List.drop_eq_getElem_cons h]
  show (match ofD t p[k] r least with | none => some i | some d => fuM t r (i + 1) (p[k].1 + d + p[k].2.1.length + 1) (p.drop (k + 1))) = _
  rw [e]
theorem fuP_app : ∀ (p q : List Hk) (l m : List Int), l.length = p.length → fuP (p ++ q) (l ++ m) = fuP p l ++ fuP q m
  | [], q, [], m, _ => by cases q <;> cases m <;> rfl
  | h :: p, q, d :: l, m, e => by
    show (h.1 + d, h.2) :: fuP (p ++ q) (l ++ m) = _
    rw [fuP_app p q l m (by simpa using e)]; rfl
theorem fuP_set {p : List Hk} {l : List Int} {d : Int} {k : Nat} (h : k < p.length) (hl : l.length = k) : (fuP (p.take k) l ++ p.drop k).set k (p[k].1 + d, p[k].2) = fuP (p.take (k + 1)) (l ++ [d]) ++ p.drop (k + 1) := by
  have e1 : (fuP (p.take k) l).length = k := by rw [fuP_len, List.length_take]; omega
  rw [List.set_append_right _ _ (by omega), e1, Nat.sub_self, List.drop_eq_getElem_cons h, List.set_cons_zero, List.take_add_one, List.getElem?_eq_getElem h, Option.toList_some, fuP_app _ _ _ _ (by rw [List.length_take]; omega), List.append_assoc]
  rfl
theorem fuP_get {p : List Hk} {l : List Int} {k : Nat} (h : k < p.length) (hl : l.length = k) (d : Hk) : (fuP (p.take k) l ++ p.drop k).getD k d = p[k] := by
  have e1 : (fuP (p.take k) l).length = k := by rw [fuP_len, List.length_take]; omega
  rw [List.getD_eq_getElem?_getD, List.getElem?_append_right (by omega), e1, Nat.sub_self, List.getElem?_drop, Nat.add_zero, List.getElem?_eq_getElem h]; rfl
theorem fuP_lens : ∀ (p : List Hk) (l : List Int), (∀ h ∈ p, HkOk h) → ∀ h ∈ fuP p l, h.2.2.length ≤ 120
  | [], [], _, h, hh => by cases hh
  | [], _ :: _, _, h, hh => by cases hh
  | _ :: _, [], hp, h, hh => (hp h hh).2.2.2
  | g :: p, d :: l, hp, h, hh => by
    rcases List.mem_cons.1 hh with rfl | hh
    · exact (hp g List.mem_cons_self).2.2.2
    · exact fuP_lens p l (fun k hk => hp k (List.mem_cons_of_mem _ hk)) h hh
end Go.Proofs.YtppmhjaooiameaaDoor
