/- Plain: what a composition costs. -/
import Derived.Test.YthacjpemeaekdaaComBd
namespace Go.Proofs.Ythacjpemeaekdaa
open Go.RowKit

/-- how many steps change something -/
def nk : List (Int × ByteArray) → Nat
  | [] => 0
  | e :: l => (if e.1 = 0 then 0 else 1) + nk l
theorem nk_append : ∀ (a b : List (Int × ByteArray)), nk (a ++ b) = nk a + nk b
  | [], b => (Nat.zero_add _).symm
  | e :: a, b => by
    show (if e.1 = 0 then 0 else 1) + nk (a ++ b) = (if e.1 = 0 then 0 else 1) + nk a + nk b
    rw [nk_append a b]; omega
theorem nk_dels : ∀ (g : List ByteArray), nk (g.map fun x => ((1 : Int), x)) = g.length
  | [] => rfl
  | x :: g => by
    show 1 + nk (g.map _) = g.length + 1
    rw [nk_dels g]; omega
theorem nk_inss : ∀ (g : List ByteArray), nk (g.map fun x => ((2 : Int), x)) = g.length
  | [] => rfl
  | x :: g => by
    show 1 + nk (g.map _) = g.length + 1
    rw [nk_inss g]; omega
theorem col_nk : ∀ (l : List (Int × ByteArray)) (a : Int) (cu : Option Hk), pCost (col a cu l) = pCost cu.toList + nk l
  | [], a, cu => by show pCost cu.toList = pCost cu.toList + ((0 : Nat) : Int); omega
  | e :: l, a, cu => by
    rw [col]
    show _ = pCost cu.toList + (((if e.1 = 0 then 0 else 1) + nk l : Nat) : Int)
    split
    · rw [pCost_append, col_nk l]
      show pCost cu.toList + (0 + (nk l : Int)) = _
      omega
    · split
      · rw [col_nk l]
        have : pCost [cuDel a cu e.2] = pCost cu.toList + 1 := by
          cases cu with
          | none => rfl
          | some c =>
            show ((c.2.1 ++ [e.2]).length : Int) + c.2.2.length + 0 = (c.2.1.length : Int) + c.2.2.length + 0 + 1
            rw [List.length_append, List.length_singleton]; omega
        show pCost [cuDel a cu e.2] + (nk l : Int) = _
        rw [this]; omega
      · rw [col_nk l]
        have : pCost [cuIns a cu e.2] = pCost cu.toList + 1 := by
          cases cu with
          | none => rfl
          | some c =>
            show (c.2.1.length : Int) + (c.2.2 ++ [e.2]).length + 0 = (c.2.1.length : Int) + c.2.2.length + 0 + 1
            rw [List.length_append, List.length_singleton]; omega
        show pCost [cuIns a cu e.2] + (nk l : Int) = _
        rw [this]; omega
def wM : List Md → Nat
  | [] => 0
  | m :: M => m.2.2.length + (if m.1 = true then 1 else 0) + wM M
theorem wM_append : ∀ (A B : List Md), wM (A ++ B) = wM A + wM B
  | [], B => (Nat.zero_add _).symm
  | a :: A, B => by
    show a.2.2.length + (if a.1 = true then 1 else 0) + wM (A ++ B) = a.2.2.length + (if a.1 = true then 1 else 0) + wM A + wM B
    rw [wM_append A B]; omega
theorem wM_cut (n : Nat) (M : List Md) : wM M = wM (M.take n) + wM (M.drop n) := by
  rw [← wM_append, List.take_append_drop]
theorem nk_kevs : ∀ (M : List Md), nk (M.flatMap kev) = wM M
  | [] => rfl
  | m :: M => by
    rw [List.flatMap_cons, nk_append, nk_kevs M]
    unfold kev
    rw [nk_append, nk_dels]
    show m.2.2.length + nk [if m.1 = true then (2, m.2.1) else (0, ByteArray.empty)] + wM M = m.2.2.length + (if m.1 = true then 1 else 0) + wM M
    split <;> rfl
theorem nk_devs : ∀ (M : List Md) (o : List ByteArray), nk (devs M o) ≤ wM (M.take o.length) + o.length
  | [], [] => Nat.le_refl _
  | [], _ :: _ => Nat.zero_le _
  | m :: M, [] => Nat.zero_le _
  | m :: M, s :: o => by
    have := nk_devs M o
    show nk (dev m s ++ devs M o) ≤ m.2.2.length + (if m.1 = true then 1 else 0) + wM (M.take o.length) + (o.length + 1)
    rw [nk_append]
    have : nk (dev m s) ≤ m.2.2.length + (if m.1 = true then 1 else 0) + 1 := by
      unfold dev
      rw [nk_append, nk_dels]
      split
      · show _ + 0 ≤ _; omega
      · show _ + 1 ≤ _; omega
    omega
theorem nk_evs : ∀ (q : List Hk) (a : Int) (M : List Md), ch (a - 1) q → nk (evs a M q) ≤ wM M + szO q + szN q
  | [], _, M, _ => by rw [evs, nk_kevs]; exact Nat.le_add_right _ _
  | h :: q, a, M, ⟨h1, h2⟩ => by
    have e := hkEnd_ge h
    have ih := nk_evs q (hkEnd h) (M.drop (hkEnd h - a).toNat) (ch_le (by omega) h2)
    have dl := nk_devs (M.drop (h.1 - a).toNat) h.2.1
    have k1 := wM_cut (h.1 - a).toNat M
    have k2 := wM_cut h.2.1.length (M.drop (h.1 - a).toNat)
    rw [List.drop_drop, show (h.1 - a).toNat + h.2.1.length = (hkEnd h - a).toNat by unfold hkEnd; omega] at k2
    show nk ((M.take (h.1 - a).toNat).flatMap kev ++ (h.2.2.map (fun x => ((2 : Int), x)) ++ (devs (M.drop (h.1 - a).toNat) h.2.1 ++ evs (hkEnd h) (M.drop (hkEnd h - a).toNat) q))) ≤ wM M + (h.2.1.length + szO q) + (h.2.2.length + szN q)
    rw [nk_append, nk_append, nk_append, nk_kevs, nk_inss]
    omega
theorem wM_plain : ∀ (n : Nat) (g : List ByteArray), wM (plainL n g) + (plainG n g).length = g.length
  | 0, g => by simp [plainL, plainG, wM]
  | n + 1, g => by
    have := wM_plain n []
    have e : (plainG n ([] : List ByteArray)) = [] := by cases n <;> rfl
    rw [e] at this
    have this : wM (plainL n []) + 0 = 0 := this
    show g.length + 0 + wM (plainL n []) + 0 = _
    omega
theorem wM_ins : ∀ (l g : List ByteArray), wM (insL l g) + (insG l g).length = l.length + g.length
  | [], g => by simp [insL, insG, wM]
  | x :: l, g => by
    have := wM_ins l []
    have e : (insG l ([] : List ByteArray)) = [] := by cases l <;> rfl
    rw [e] at this
    have this : wM (insL l []) + 0 = l.length + 0 := this
    show g.length + 1 + wM (insL l []) + 0 = l.length + 1 + g.length
    omega
theorem wM_mid : ∀ (p : List Hk) (a : Int) (g : List ByteArray), wM (midL a p g) ≤ g.length + szO p + szN p
  | [], a, g => by
    have := wM_plain 480 g
    show wM (plainL 480 g) ≤ _
    omega
  | h :: p, a, g => by
    have ih := wM_mid p (hkEnd h) (insG h.2.2 (plainG (h.1 - a).toNat g ++ h.2.1))
    have k1 := wM_plain (h.1 - a).toNat g
    have k2 := wM_ins h.2.2 (plainG (h.1 - a).toNat g ++ h.2.1)
    rw [List.length_append] at k2
    show wM (plainL (h.1 - a).toNat g ++ insL h.2.2 (plainG (h.1 - a).toNat g ++ h.2.1) ++ midL (hkEnd h) p (insG h.2.2 (plainG (h.1 - a).toNat g ++ h.2.1))) ≤ g.length + (h.2.1.length + szO p) + (h.2.2.length + szN p)
    rw [wM_append, wM_append]
    omega
theorem pCost_sz : ∀ (p : List Hk), pCost p = ((szO p + szN p : Nat) : Int)
  | [] => rfl
  | h :: p => by
    show (h.2.1.length : Int) + h.2.2.length + pCost p = ((h.2.1.length + szO p + (h.2.2.length + szN p) : Nat) : Int)
    rw [pCost_sz p]; omega
theorem co_cost {p q : List Hk} (hq : pC q = 0) : pCost (coR p q) ≤ pCost p + pCost q := by
  have h1 := nk_evs q 0 (coM p) (pC_iff.1 hq).2.1
  have h2 : wM (coM p) ≤ 0 + szO p + szN p := wM_mid p 0 []
  have h3 : pCost (coR p q) = 0 + nk (evs 0 (coM p) q) := col_nk _ _ _
  rw [h3, pCost_sz p, pCost_sz q]
  omega
end Go.Proofs.Ythacjpemeaekdaa
