/- Patches of texts as plain data: their check, their inverse. -/
import Derived.Test.YtppmhjaooiameaaDoorLinPure
namespace Go.Proofs.YtppmhjaooiameaaDoor
open Go.RowKit

abbrev Hk : Type := Int × List ByteArray × List ByteArray
def hkC (h : Hk) (e : Int) : Int :=
  if h.1 < 0 ∨ 120 < h.1 then 3 else if vC h.2.1 ≠ 0 then vC h.2.1 else if vC h.2.2 ≠ 0 then vC h.2.2 else
  if h.2.1.length + h.2.2.length = 0 ∨ h.1 ≤ e then 5 else if 120 < h.1 + h.2.1.length then 3 else 0
def hkEnd (h : Hk) : Int := h.1 + h.2.1.length
def phC : Int → List Hk → Int
  | _, [] => 0
  | e, h :: p => if hkC h e = 0 then phC (hkEnd h) p else hkC h e
def phI : Int → Int → List Hk → Int
  | _, _, [] => 0
  | e, i, h :: p => if hkC h e = 0 then phI (hkEnd h) (i + 1) p else i
def pC (p : List Hk) : Int := if 130 < p.length then 2 else phC (-1) p
def pI (p : List Hk) : Int := if 130 < p.length then -1 else phI (-1) 0 p
theorem phI_good : ∀ (p : List Hk) (e i : Int), phC e p = 0 → phI e i p = 0
  | [], _, _, _ => rfl
  | h :: p, e, i, hp => by
    unfold phC at hp
    unfold phI
    split
    · rename_i hc
      rw [if_pos hc] at hp
      exact phI_good p _ _ hp
    · rename_i hc
      rw [if_neg hc] at hp
      exact absurd hp hc
theorem pI_good (p : List Hk) (h : pC p = 0) : pI p = 0 := by
  unfold pC at h
  unfold pI
  split
  · rename_i hc
    rw [if_pos hc] at h
    exact absurd h (by decide)
  · rename_i hc
    rw [if_neg hc] at h
    exact phI_good p _ _ h
theorem hkC_good {h : Hk} {e : Int} : hkC h e = 0 ↔ 0 ≤ h.1 ∧ h.1 ≤ 120 ∧ vC h.2.1 = 0 ∧ vC h.2.2 = 0 ∧ 0 < h.2.1.length + h.2.2.length ∧ e < h.1 ∧ h.1 + h.2.1.length ≤ 120 := by
  unfold hkC
  constructor
  · intro q
    split at q
    · exact absurd q (by decide)
    split at q
    · contradiction
    split at q
    · contradiction
    split at q
    · exact absurd q (by decide)
    split at q
    · exact absurd q (by decide)
    rename_i h1 h2 h3 h4 h5
    refine ⟨by omega, by omega, Classical.not_not.1 h2, Classical.not_not.1 h3, by omega, by omega, by omega⟩
  · rintro ⟨h1, h2, h3, h4, h5, h6, h7⟩
    rw [if_neg (by omega), if_neg (by rw [h3]; decide), if_neg (by rw [h4]; decide), if_neg (by omega), if_neg (by omega)]

/-- The inverse, hunk by hunk: `g` is how many lines have grown ahead. -/
def hkInv (g : Int) (h : Hk) : Hk := (h.1 + g, h.2.2, h.2.1)
def hkGrow (h : Hk) : Int := h.2.2.length - h.2.1.length
def pInv : Int → List Hk → List Hk
  | _, [] => []
  | g, h :: p => hkInv g h :: pInv (g + hkGrow h) p
def pGrow : List Hk → Int
  | [] => 0
  | h :: p => hkGrow h + pGrow p
theorem pInv_length : ∀ (p : List Hk) (g : Int), (pInv g p).length = p.length
  | [], _ => rfl
  | h :: p, g => by simp [pInv, pInv_length p]
theorem pInv_inv : ∀ (p : List Hk) (g k : Int), k = -g → pInv k (pInv g p) = p
  | [], _, _, _ => rfl
  | h :: p, g, k, e => by
    obtain ⟨a, o, n⟩ := h
    unfold pInv
    show hkInv k (hkInv g (a, o, n)) :: pInv (k + hkGrow (hkInv g (a, o, n))) (pInv (g + hkGrow (a, o, n)) p) = _
    rw [pInv_inv p _ _ (by simp only [hkInv, hkGrow]; omega)]
    simp only [hkInv]
    congr 2
    omega
theorem pInv_append : ∀ (p q : List Hk) (g : Int), pInv g (p ++ q) = pInv g p ++ pInv (g + pGrow p) q
  | [], q, g => by simp [pInv, pGrow]
  | h :: p, q, g => by
    simp only [List.cons_append, pInv, pInv_append p, pGrow]
    rw [Int.add_assoc]
theorem pGrow_append : ∀ (p q : List Hk), pGrow (p ++ q) = pGrow p + pGrow q
  | [], q => by simp [pGrow]
  | h :: p, q => by
    simp only [List.cons_append, pGrow, pGrow_append p]
    omega

theorem fault_eq {p q : Int} (h : (decide (p = 0) && decide (q = 0)) = true) : p = 0 := by simp at h; exact h.1
theorem fault_ne {p q : Int} (h : (decide (p = 0) && decide (q = 0)) = false) (g : p = 0 → q = 0) : ¬ p = 0 := by
  intro e; rw [e, g e] at h; simp at h

theorem vC_len (l : List ByteArray) (h : vC l = 0) : l.length ≤ 120 := ((vC_good l).1 h).1

def HkOk (h : Hk) : Prop := 0 ≤ h.1 ∧ h.1 ≤ 120 ∧ h.2.1.length ≤ 120 ∧ h.2.2.length ≤ 120
theorem phC_ok : ∀ (p : List Hk) (e : Int), phC e p = 0 → ∀ h ∈ p, HkOk h
  | [], _, _, h, hm => by simp at hm
  | g :: p, e, hp, h, hm => by
    unfold phC at hp
    split at hp
    · rename_i hc
      rcases List.mem_cons.1 hm with rfl | hm
      · obtain ⟨q1, q2, q3, q4, -⟩ := hkC_good.1 hc
        exact ⟨q1, q2, vC_len _ q3, vC_len _ q4⟩
      · exact phC_ok p _ hp h hm
    · contradiction
theorem pC_ok {p : List Hk} (h : pC p = 0) : p.length ≤ 130 ∧ ∀ x ∈ p, HkOk x := by
  unfold pC at h
  split at h
  · exact absurd h (by decide)
  · exact ⟨by omega, phC_ok p _ h⟩
theorem pGrow_bd : ∀ (p : List Hk), (∀ x ∈ p, HkOk x) → -(120 * (p.length : Int)) ≤ pGrow p ∧ pGrow p ≤ 120 * (p.length : Int)
  | [], _ => by simp [pGrow]
  | g :: p, h => by
    obtain ⟨i1, i2⟩ := pGrow_bd p fun x hx => h x (by simp [hx])
    obtain ⟨-, -, q3, q4⟩ := h g (by simp)
    unfold pGrow hkGrow
    rw [List.length_cons]
    omega
theorem getD_set_at {α : Type} (M : List α) (k : Nat) (h : k < M.length) (d x : α) : (M.set k x).getD k d = x := by
  rw [List.getD_eq_getElem?_getD, List.getElem?_set_self h]; rfl
theorem sets3 (M : List Hk) (k : Nat) (h : k < M.length) (d : Hk) (a : Int) :
    ((M.set k (a, (M.getD k d).2)).set k (((M.set k (a, (M.getD k d).2)).getD k d).1, (M.getD k d).2.2, ((M.set k (a, (M.getD k d).2)).getD k d).2.2)).set k
      ((((M.set k (a, (M.getD k d).2)).set k (((M.set k (a, (M.getD k d).2)).getD k d).1, (M.getD k d).2.2, ((M.set k (a, (M.getD k d).2)).getD k d).2.2)).getD k d).1,
       (((M.set k (a, (M.getD k d).2)).set k (((M.set k (a, (M.getD k d).2)).getD k d).1, (M.getD k d).2.2, ((M.set k (a, (M.getD k d).2)).getD k d).2.2)).getD k d).2.1, (M.getD k d).2.1)
    = M.set k (a, (M.getD k d).2.2, (M.getD k d).2.1) := by
  rw [getD_set_at M k h, getD_set_at _ k (by simpa using h), List.set_set, List.set_set]
def ivP (p : List Hk) : List Hk := if pC p = 0 ∧ pC (pInv 0 p) = 0 then pInv 0 p else []
def ivC (p : List Hk) : Int := if pC p = 0 then (if pC (pInv 0 p) = 0 then 0 else 10) else pC p
def ivI (p : List Hk) : Int := if pC p = 0 then (if pC (pInv 0 p) = 0 then 0 else -1) else pI p
/-- the lines from `a` on are `o` -/
def occ (text o : List ByteArray) (a : Int) : Bool := decide (0 ≤ a) && decide (a ≤ text.length) && decide ((o.length : Int) ≤ text.length - a) && decide ((text.take (a + o.length).toNat).drop a.toNat = o)
def raw (t : List ByteArray) (high : Int) : Int → List Hk → List ByteArray
  | low, [] => (t.take high.toNat).drop low.toNat
  | low, h :: p => (t.take h.1.toNat).drop low.toNat ++ h.2.2 ++ raw t high (hkEnd h) p
def rawOk (t : List ByteArray) (high : Int) : Int → List Hk → Prop
  | low, [] => 0 ≤ low ∧ low ≤ high ∧ high ≤ t.length
  | low, h :: p => 0 ≤ low ∧ low ≤ h.1 ∧ h.1 ≤ t.length ∧ h.2.1.length ≤ 120 ∧ h.2.2.length ≤ 120 ∧ rawOk t high (hkEnd h) p
theorem raw_step {t : List ByteArray} {high : Int} {p : List Hk} {k : Nat} (h : k < p.length) (low : Int) : raw t high low (p.drop k) = (t.take p[k].1.toNat).drop low.toNat ++ p[k].2.2 ++ raw t high (hkEnd p[k]) (p.drop (k + 1)) := by
  rw [List.drop_eq_getElem_cons h]; rfl
theorem rawOk_step {t : List ByteArray} {high : Int} {p : List Hk} {k : Nat} (h : k < p.length) {low : Int} (q : rawOk t high low (p.drop k)) : 0 ≤ low ∧ low ≤ p[k].1 ∧ p[k].1 ≤ t.length ∧ p[k].2.1.length ≤ 120 ∧ p[k].2.2.length ≤ 120 ∧ rawOk t high (hkEnd p[k]) (p.drop (k + 1)) := by
  rw [List.drop_eq_getElem_cons h] at q; exact q
theorem rawOk_of {t : List ByteArray} (ht : t.length ≤ 120) : ∀ (p : List Hk) (e low : Int), phC e p = 0 → 0 ≤ low → low ≤ e + 1 ∨ low ≤ e → low ≤ t.length → (∀ h ∈ p, occ t h.2.1 h.1 = true) → rawOk t t.length low p
  | [], e, low, _, h0, _, h2, _ => ⟨h0, h2, Int.le_refl _⟩
  | h :: p, e, low, hp, h0, h1, h2, ho => by
    unfold phC at hp
    split at hp
    · rename_i hc
      obtain ⟨q1, q2, q3, q4, q5, q6, q7⟩ := hkC_good.1 hc
      have hoc := ho h (by simp)
      unfold occ at hoc
      simp only [Bool.and_eq_true, decide_eq_true_eq] at hoc
      obtain ⟨⟨⟨w1, w2⟩, w3⟩, -⟩ := hoc
      have l1 := vC_len _ q3
      have l2 := vC_len _ q4
      refine ⟨h0, by omega, w2, l1, l2, rawOk_of ht p (hkEnd h) (hkEnd h) hp (by unfold hkEnd; omega) (by omega) (by unfold hkEnd; omega) fun x hx => ho x (by simp [hx])⟩
    · contradiction
theorem raw_len {t : List ByteArray} {high : Int} (ht : t.length ≤ 120) : ∀ (p : List Hk) (low : Int), (∀ h ∈ p, h.2.2.length ≤ 120) → (raw t high low p).length ≤ 120 + 240 * p.length
  | [], low, _ => by
    show ((t.take high.toNat).drop low.toNat).length ≤ _
    rw [List.length_drop, List.length_take]; omega
  | h :: p, low, ho => by
    have ih := raw_len ht (high := high) p (hkEnd h) fun x hx => ho x (by simp [hx])
    have h1 := ho h (by simp)
    show ((t.take h.1.toNat).drop low.toNat ++ h.2.2 ++ raw t high (hkEnd h) p).length ≤ _
    rw [List.length_append, List.length_append, List.length_drop, List.length_take, List.length_cons]
    omega
/-- the first hunk that does not fit -/
def missI (t : List ByteArray) : Nat → List Hk → Option Nat
  | _, [] => none
  | i, h :: p => if occ t h.2.1 h.1 = true then missI t (i + 1) p else some i
theorem missI_step {t : List ByteArray} {p : List Hk} {k : Nat} (h : k < p.length) (i : Nat) : missI t i (p.drop k) = if occ t p[k].2.1 p[k].1 = true then missI t (i + 1) (p.drop (k + 1)) else some i := by
  rw [List.drop_eq_getElem_cons h]; rfl
theorem missI_none {t : List ByteArray} : ∀ (p : List Hk) (i : Nat), missI t i p = none → ∀ h ∈ p, occ t h.2.1 h.1 = true
  | [], _, _, h, hm => by simp at hm
  | g :: p, i, e, h, hm => by
    unfold missI at e
    split at e
    · rename_i hc
      rcases List.mem_cons.1 hm with rfl | hm
      · exact hc
      · exact missI_none p _ e h hm
    · cases e
def apF (p : List Hk) (t : List ByteArray) : Int × Int :=
  if pC p ≠ 0 then (pC p, pI p) else if vC t ≠ 0 then (vC t, -2) else match missI t 0 p with
    | some i => (19, (i : Int))
    | none => if 120 < (raw t t.length 0 p).length then (10, -1) else (0, 0)
def apL (p : List Hk) (t : List ByteArray) : List ByteArray := if (apF p t).1 = 0 then raw t t.length 0 p else []
end Go.Proofs.YtppmhjaooiameaaDoor
