/- Patches of texts as plain data: their check, their inverse. -/
import Derived.Test.YtmbeokkaiblblaaLinPure
namespace Go.Proofs.Ytmbeokkaiblblaa
open Go.RowKit

abbrev Hk : Type := Int × List ByteArray × List ByteArray
def hkC (h : Hk) (e : Int) : Int :=
  if h.1 < 0 ∨ 120 < h.1 then 3 else if vC h.2.1 ≠ 0 then vC h.2.1 else if vC h.2.2 ≠ 0 then vC h.2.2 else
  if h.2.1.length + h.2.2.length = 0 ∨ h.1 ≤ e then 5 else if 120 < h.1 + h.2.1.length then 3 else 0
def hkEnd (h : Hk) : Int := h.1 + h.2.1.length
def phC : Int → List Hk → Int
  | _, [] => 0
  | e, h :: p => if hkC h e = 0 then phC (hkEnd h) p else hkC h e
def phI : Int → Int → List Hk → Int
  | _, _, [] => 0
  | e, i, h :: p => if hkC h e = 0 then phI (hkEnd h) (i + 1) p else i
def pC (p : List Hk) : Int := if 130 < p.length then 2 else phC (-1) p
def pI (p : List Hk) : Int := if 130 < p.length then -1 else phI (-1) 0 p
theorem phI_good : ∀ (p : List Hk) (e i : Int), phC e p = 0 → phI e i p = 0
  | [], _, _, _ => rfl
  | h :: p, e, i, hp => by
    unfold phC at hp
    unfold phI
    split
    · rename_i hc
      rw [if_pos hc] at hp
      exact phI_good p _ _ hp
    · rename_i hc
      rw [if_neg hc] at hp
      exact absurd hp hc
theorem pI_good (p : List Hk) (h : pC p = 0) : pI p = 0 := by
  unfold pC at h
  unfold pI
  split
  · rename_i hc
    rw [if_pos hc] at h
    exact absurd h (by decide)
  · rename_i hc
    rw [if_neg hc] at h
    exact phI_good p _ _ h
theorem hkC_good {h : Hk} {e : Int} : hkC h e = 0 ↔ 0 ≤ h.1 ∧ h.1 ≤ 120 ∧ vC h.2.1 = 0 ∧ vC h.2.2 = 0 ∧ 0 < h.2.1.length + h.2.2.length ∧ e < h.1 ∧ h.1 + h.2.1.length ≤ 120 := by
  unfold hkC
  constructor
  · intro q
    split at q
    · exact absurd q (by decide)
    split at q
    · contradiction
    split at q
    · contradiction
    split at q
    · exact absurd q (by decide)
    split at q
    · exact absurd q (by decide)
    rename_i h1 h2 h3 h4 h5
    refine ⟨by omega, by omega, Classical.not_not.1 h2, Classical.not_not.1 h3, by omega, by omega, by omega⟩
  · rintro ⟨h1, h2, h3, h4, h5, h6, h7⟩
    rw [if_neg (by omega), if_neg (by rw [h3]; decide), if_neg (by rw [h4]; decide), if_neg (by omega), if_neg (by omega)]

/-- The inverse, hunk by hunk: `g` is how many lines have grown ahead. -/
def hkInv (g : Int) (h : Hk) : Hk := (h.1 + g, h.2.2, h.2.1)
def hkGrow (h : Hk) : Int := h.2.2.length - h.2.1.length
def pInv : Int → List Hk → List Hk
  | _, [] => []
  | g, h :: p => hkInv g h :: pInv (g + hkGrow h) p
def pGrow : List Hk → Int
  | [] => 0
  | h :: p => hkGrow h + pGrow p
theorem pInv_length : ∀ (p : List Hk) (g : Int), (pInv g p).length = p.length
  | [], _ => rfl
  | h :: p, g => by simp [pInv, pInv_length p]
theorem pInv_inv : ∀ (p : List Hk) (g k : Int), k = -g → pInv k (pInv g p) = p
  | [], _, _, _ => rfl
  | h :: p, g, k, e => by
    obtain ⟨a, o, n⟩ := h
    unfold pInv
    show hkInv k (hkInv g (a, o, n)) :: pInv (k + hkGrow (hkInv g (a, o, n))) (pInv (g + hkGrow (a, o, n)) p) = _
    rw [pInv_inv p _ _ (by simp only [hkInv, hkGrow]; omega)]
    simp only [hkInv]
    congr 2
    omega
theorem pInv_append : ∀ (p q : List Hk) (g : Int), pInv g (p ++ q) = pInv g p ++ pInv (g + pGrow p) q
  | [], q, g => by simp [pInv, pGrow]
  | h :: p, q, g => by
    simp only [List.cons_append, pInv, pInv_append p, pGrow]
    rw [Int.add_assoc]
theorem pGrow_append : ∀ (p q : List Hk), pGrow (p ++ q) = pGrow p + pGrow q
  | [], q => by simp [pGrow]
  | h :: p, q => by
    simp only [List.cons_append, pGrow, pGrow_append p]
    omega
end Go.Proofs.Ytmbeokkaiblblaa
