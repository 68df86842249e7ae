/- Plain: how many steps a composition has. -/
import Derived.Test.YthacjpemeaekdaaComPure
namespace Go.Proofs.Ythacjpemeaekdaa
open Go.RowKit

def kb : List Md → Nat
  | [] => 0
  | m :: M => 1 + m.2.2.length + kb M
def szN : List Hk → Nat
  | [] => 0
  | h :: p => h.2.2.length + szN p
def szO : List Hk → Nat
  | [] => 0
  | h :: p => h.2.1.length + szO p
theorem kb_append : ∀ (A B : List Md), kb (A ++ B) = kb A + kb B
  | [], B => (Nat.zero_add _).symm
  | a :: A, B => by
    show 1 + a.2.2.length + kb (A ++ B) = 1 + a.2.2.length + kb A + kb B
    rw [kb_append A B]; omega
theorem kb_cut (n : Nat) (M : List Md) : kb M = kb (M.take n) + kb (M.drop n) := by
  rw [← kb_append, List.take_append_drop]
theorem kb_len : ∀ (M : List Md), M.length ≤ kb M
  | [] => Nat.le_refl _
  | m :: M => by
    have := kb_len M
    rw [List.length_cons]
    show _ ≤ 1 + m.2.2.length + kb M
    omega
theorem kev_len (m : Md) : (kev m).length = 1 + m.2.2.length := by
  unfold kev
  rw [List.length_append, List.length_map, List.length_singleton]; omega
theorem kevs_len : ∀ (M : List Md), (M.flatMap kev).length = kb M
  | [] => rfl
  | m :: M => by
    rw [List.flatMap_cons, List.length_append, kev_len, kevs_len M]; rfl
theorem devs_len : ∀ (M : List Md) (o : List ByteArray), (devs M o).length ≤ kb (M.take o.length)
  | [], _ => by
    rw [devs]
    · exact Nat.zero_le _
    · intro _ _ _ _ h; cases h
  | m :: M, [] => Nat.zero_le _
  | m :: M, s :: o => by
    have := devs_len M o
    show (dev m s ++ devs M o).length ≤ 1 + m.2.2.length + kb (M.take o.length)
    rw [List.length_append]
    have : (dev m s).length ≤ 1 + m.2.2.length := by
      unfold dev
      rw [List.length_append, List.length_map]
      split
      · show _ + 0 ≤ _; omega
      · show _ + 1 ≤ _; omega
    omega
theorem evs_len : ∀ (q : List Hk) (a : Int) (M : List Md), ch (a - 1) q → (evs a M q).length ≤ kb M + szN q
  | [], _, M, _ => by rw [evs, kevs_len]; exact Nat.le_add_right _ _
  | h :: q, a, M, ⟨h1, h2⟩ => by
    have e := hkEnd_ge h
    have ih := evs_len q (hkEnd h) (M.drop (hkEnd h - a).toNat) (ch_le (by omega) h2)
    have dl := devs_len (M.drop (h.1 - a).toNat) h.2.1
    have k1 := kb_cut (h.1 - a).toNat M
    have k2 := kb_cut h.2.1.length (M.drop (h.1 - a).toNat)
    rw [List.drop_drop, show (h.1 - a).toNat + h.2.1.length = (hkEnd h - a).toNat by unfold hkEnd; omega] at k2
    show ((M.take (h.1 - a).toNat).flatMap kev ++ (h.2.2.map (fun x => ((2 : Int), x)) ++ (devs (M.drop (h.1 - a).toNat) h.2.1 ++ evs (hkEnd h) (M.drop (hkEnd h - a).toNat) q))).length ≤ kb M + (h.2.2.length + szN q)
    rw [List.length_append, List.length_append, List.length_append, kevs_len, List.length_map]
    omega
theorem kb_plain : ∀ (n : Nat) (g : List ByteArray), kb (plainL n g) + (plainG n g).length = n + g.length
  | 0, g => by simp [plainL, plainG, kb]
  | n + 1, g => by
    have := kb_plain n []
    have e : (plainG n ([] : List ByteArray)) = [] := by cases n <;> rfl
    rw [e] at this
    show 1 + g.length + kb (plainL n []) + 0 = _
    have this : kb (plainL n []) + 0 = n + 0 := this
    omega
theorem kb_ins : ∀ (l g : List ByteArray), kb (insL l g) + (insG l g).length = l.length + g.length
  | [], g => by simp [insL, insG, kb]
  | x :: l, g => by
    have := kb_ins l []
    have e : (insG l ([] : List ByteArray)) = [] := by cases l <;> rfl
    rw [e] at this
    have this : kb (insL l []) + 0 = l.length + 0 := this
    show 1 + g.length + kb (insL l []) + 0 = l.length + 1 + g.length
    omega
theorem kb_mid : ∀ (p : List Hk) (a : Int) (g : List ByteArray), ch (a - 1) p → (∀ h ∈ p, hkEnd h ≤ 120) → a ≤ 120 → kb (midL a p g) ≤ 480 + g.length + (120 - a).toNat + szO p + szN p
  | [], a, g, _, _, _ => by
    have := kb_plain 480 g
    show kb (plainL 480 g) ≤ _
    omega
  | h :: p, a, g, ⟨h1, h2⟩, hb, ha => by
    have e := hkEnd_ge h
    have hb1 := hb h (by simp)
    have ih := kb_mid p (hkEnd h) (insG h.2.2 (plainG (h.1 - a).toNat g ++ h.2.1)) (ch_le (by omega) h2) (fun x hx => hb x (by simp [hx])) hb1
    have k1 := kb_plain (h.1 - a).toNat g
    have k2 := kb_ins h.2.2 (plainG (h.1 - a).toNat g ++ h.2.1)
    rw [List.length_append] at k2
    show kb (plainL (h.1 - a).toNat g ++ insL h.2.2 (plainG (h.1 - a).toNat g ++ h.2.1) ++ midL (hkEnd h) p (insG h.2.2 (plainG (h.1 - a).toNat g ++ h.2.1))) ≤ 480 + g.length + (120 - a).toNat + (h.2.1.length + szO p) + (h.2.2.length + szN p)
    rw [kb_append, kb_append]
    omega
theorem plain_len : ∀ (n : Nat) (g : List ByteArray), (plainL n g).length = n
  | 0, _ => rfl
  | n + 1, g => by rw [plainL, List.length_cons, plain_len n]
theorem mid_len : ∀ (p : List Hk) (a : Int) (g : List ByteArray), 480 ≤ (midL a p g).length
  | [], a, g => by rw [midL, plain_len]; exact Nat.le_refl _
  | h :: p, a, g => by
    rw [midL, List.length_append]
    have := mid_len p (hkEnd h) (insG h.2.2 (plainG (h.1 - a).toNat g ++ h.2.1))
    omega
theorem sz_ok : ∀ (p : List Hk), (∀ h ∈ p, HkOk h) → szO p ≤ 120 * p.length ∧ szN p ≤ 120 * p.length
  | [], _ => ⟨Nat.le_refl _, Nat.le_refl _⟩
  | h :: p, hb => by
    obtain ⟨h1, h2⟩ := sz_ok p fun x hx => hb x (by simp [hx])
    obtain ⟨-, -, g1, g2⟩ := hb h (by simp)
    rw [List.length_cons]
    exact ⟨by show h.2.1.length + szO p ≤ _; omega, by show h.2.2.length + szN p ≤ _; omega⟩
theorem co_bd {p q : List Hk} (hp : pC p = 0) (hq : pC q = 0) : 480 ≤ (coM p).length ∧ (coM p).length ≤ 1000000 ∧ (∀ h ∈ q, HkOk h ∧ hkEnd h ≤ 120) ∧ q.length ≤ 130 ∧ ch (-1) q ∧ (evs 0 (coM p) q).length ≤ 1000000 := by
  obtain ⟨p1, p2, p3⟩ := pC_iff.1 hp
  obtain ⟨q1, q2, q3⟩ := pC_iff.1 hq
  have okp : ∀ h ∈ p, HkOk h := (pC_ok hp).2
  have okq : ∀ h ∈ q, HkOk h := (pC_ok hq).2
  have m := kb_mid p 0 [] p2 (fun h hh => by have := (p3 h hh).2.2.2.2.2; unfold hkEnd; exact this) (by decide)
  have sp := sz_ok p okp
  have sq := sz_ok q okq
  have e := evs_len q 0 (coM p) q2
  have l := kb_len (coM p)
  have m : kb (coM p) ≤ 480 + 0 + 120 + szO p + szN p := m
  exact ⟨mid_len p 0 [], by omega, fun h hh => ⟨okq h hh, by have := (q3 h hh).2.2.2.2.2; unfold hkEnd; exact this⟩, q1, q2, by omega⟩
theorem bad_step {M : List Md} {a j : Nat} {o : List ByteArray} (h : j < o.length) (hl : a + j < M.length) : bad (M.drop (a + j)) (o.drop j) = ((M[a + j].1 && !decide (M[a + j].2.1 = o[j])) || bad (M.drop (a + (j + 1))) (o.drop (j + 1))) := by
  rw [List.drop_eq_getElem_cons h, List.drop_eq_getElem_cons hl]; rfl
theorem bad_end {M : List Md} {o : List ByteArray} {j : Nat} (h : ¬ j < o.length) : bad M (o.drop j) = false := by
  rw [show o.drop j = [] from List.drop_eq_nil_of_le (by omega)]
  cases M <;> rfl
theorem confI_step {M : List Md} {q : List Hk} {k : Nat} (h : k < q.length) : confI k M (q.drop k) = if bad (M.drop q[k].1.toNat) q[k].2.1 = true then some k else confI (k + 1) M (q.drop (k + 1)) := by
  rw [List.drop_eq_getElem_cons h]; rfl
end Go.Proofs.Ythacjpemeaekdaa
