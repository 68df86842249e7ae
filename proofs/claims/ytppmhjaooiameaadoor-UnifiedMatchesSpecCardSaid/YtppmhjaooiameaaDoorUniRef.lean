/- The reference's search for an offset, as plain data. No program in sight. -/
import Derived.Test.YtppmhjaooiameaaDoorUniPure
namespace Go.Proofs.YtppmhjaooiameaaDoor
open Go.RowKit

def iabs (n : Int) : Int := if n < 0 then -n else n
/-- the best of the offsets from d on, m of them; b: the best so far -/
def bstF (t : List ByteArray) (h : Hk) (least : Int) : Nat → Int → Int → Int
  | 0, _, b => b
  | m + 1, d, b => bstF t h least m (d + 1) (if ofOk t h least d = true ∧ iabs d < iabs b then d else b)
theorem ofS_none {t : List ByteArray} {h : Hk} {least : Int} : ∀ (m : Nat) (n : Int), 0 ≤ n → ofS t h least m n = none → ∀ d, n ≤ iabs d → iabs d < n + m → ofOk t h least d = false
  | 0, n, h0, _, d, h1, h2 => absurd h2 (by omega)
  | m + 1, n, h0, e, d, h1, h2 => by
    unfold ofS at e
    split at e
    · cases e
    rename_i q1
    split at e
    · cases e
    rename_i q2
    by_cases hd : iabs d = n
    · unfold iabs at hd
      split at hd
      · obtain rfl : d = -n := by omega
        simpa using q1
      · obtain rfl : d = n := by omega
        simpa using q2
    · exact ofS_none m (n + 1) (by omega) e d (by omega) (by omega)
theorem ofS_some {t : List ByteArray} {h : Hk} {least : Int} : ∀ (m : Nat) (n x : Int), 0 ≤ n → ofS t h least m n = some x → ofOk t h least x = true ∧ n ≤ iabs x ∧ iabs x < n + m ∧ ∀ d, n ≤ iabs d → ofOk t h least d = true → iabs x < iabs d ∨ (iabs x = iabs d ∧ x ≤ d)
  | 0, n, x, h0, e => by cases e
  | m + 1, n, x, h0, e => by
    have an : iabs (-n) = n := by unfold iabs; split <;> omega
    have ap : iabs n = n := by unfold iabs; split <;> omega
    unfold ofS at e
    split at e
    · rename_i q
      cases e
      refine ⟨q, by omega, by omega, fun d h1 _ => ?_⟩
      rw [an]
      by_cases hd : iabs d = n
      · refine .inr ⟨hd.symm, ?_⟩
        unfold iabs at hd
        split at hd <;> omega
      · exact .inl (by omega)
    rename_i q1
    split at e
    · rename_i q
      cases e
      refine ⟨q, by omega, by omega, fun d h1 h2 => ?_⟩
      rw [ap]
      by_cases hd : iabs d = n
      · refine .inr ⟨hd.symm, ?_⟩
        unfold iabs at hd
        split at hd
        · obtain rfl : d = -n := by omega
          exact absurd h2 q1
        · omega
      · exact .inl (by omega)
    rename_i q2
    obtain ⟨i1, i2, i3, i4⟩ := ofS_some m (n + 1) x (by omega) e
    refine ⟨i1, by omega, by omega, fun d h1 h2 => ?_⟩
    by_cases hd : iabs d = n
    · exfalso
      unfold iabs at hd
      split at hd
      · obtain rfl : d = -n := by omega
        exact q1 h2
      · obtain rfl : d = n := by omega
        exact q2 h2
    · exact i4 d (by omega) h2
/-- b is the best of the offsets from -r to below e, or r + 1 if there is none -/
def Bst (t : List ByteArray) (h : Hk) (least r e b : Int) : Prop :=
  (b = r + 1 ∧ ∀ d, -r ≤ d → d < e → ofOk t h least d = false) ∨ (ofOk t h least b = true ∧ -r ≤ b ∧ b < e ∧ ∀ d, -r ≤ d → d < e → ofOk t h least d = true → iabs b < iabs d ∨ (iabs b = iabs d ∧ b ≤ d))
theorem bst_step {t : List ByteArray} {h : Hk} {least r e b : Int} (he : -r ≤ e) (her : e ≤ r) (hb : Bst t h least r e b) : Bst t h least r (e + 1) (if ofOk t h least e = true ∧ iabs e < iabs b then e else b) := by
  by_cases hc : ofOk t h least e = true ∧ iabs e < iabs b
  · rw [if_pos hc]
    refine .inr ⟨hc.1, he, by omega, fun d h1 h2 h3 => ?_⟩
    by_cases hd : d = e
    · subst hd; exact .inr ⟨rfl, Int.le_refl _⟩
    · rcases hb with ⟨rfl, hb⟩ | ⟨-, -, -, hb⟩
      · have := hb d h1 (by omega)
        rw [this] at h3; cases h3
      · have := hb d h1 (by omega) h3
        exact .inl (by omega)
  · rw [if_neg hc]
    rcases hb with ⟨rfl, hb⟩ | ⟨h1, h2, h3, hb⟩
    · refine .inl ⟨rfl, fun d q1 q2 => ?_⟩
      by_cases hd : d = e
      · subst hd
        cases q : ofOk t h least d
        · rfl
        · refine absurd ⟨q, ?_⟩ hc
          unfold iabs
          split <;> split <;> omega
      · exact hb d q1 (by omega)
    · refine .inr ⟨h1, h2, by omega, fun d q1 q2 q3 => ?_⟩
      by_cases hd : d = e
      · subst hd
        have : ¬ iabs d < iabs b := fun z => hc ⟨q3, z⟩
        by_cases hq : iabs b = iabs d
        · exact .inr ⟨hq, by omega⟩
        · exact .inl (by omega)
      · exact hb d q1 (by omega) q3
theorem bstF_bst {t : List ByteArray} {h : Hk} {least r : Int} : ∀ (m : Nat) (e b : Int), -r ≤ e → e + m = r + 1 → Bst t h least r e b → Bst t h least r (r + 1) (bstF t h least m e b)
  | 0, e, b, _, h2, hb => by
    obtain rfl : e = r + 1 := by omega
    exact hb
  | m + 1, e, b, h1, h2, hb => bstF_bst m (e + 1) _ (by omega) (by omega) (bst_step h1 (by omega) hb)
theorem bst_of {t : List ByteArray} {h : Hk} {least r : Int} (hr : 0 ≤ r) : bstF t h least (2 * r + 1).toNat (-r) (r + 1) = (ofD t h r least).getD (r + 1) := by
  have hb := bstF_bst (t := t) (h := h) (least := least) (r := r) (2 * r + 1).toNat (-r) (r + 1) (Int.le_refl _) (by omega) (.inl ⟨rfl, fun d h1 h2 => absurd h2 (by omega)⟩)
  generalize bstF t h least (2 * r + 1).toNat (-r) (r + 1) = b at hb ⊢
  have hm : (((r + 1).toNat : Nat) : Int) = r + 1 := by omega
  cases e : ofD t h r least with
  | none =>
    have hn := ofS_none (t := t) (h := h) (least := least) (r + 1).toNat 0 (Int.le_refl _) e
    rcases hb with ⟨rfl, -⟩ | ⟨h1, h2, h3, -⟩
    · rfl
    · have := hn b (by unfold iabs; split <;> omega) (by unfold iabs; split <;> omega)
      rw [this] at h1; cases h1
  | some x =>
    obtain ⟨s1, s2, s3, s4⟩ := ofS_some (t := t) (h := h) (least := least) (r + 1).toNat 0 x (Int.le_refl _) e
    have hx : -r ≤ x ∧ x ≤ r := by unfold iabs at s3; split at s3 <;> omega
    show b = x
    rcases hb with ⟨rfl, hb⟩ | ⟨h1, h2, h3, hb⟩
    · have := hb x hx.1 (by omega)
      rw [this] at s1; cases s1
    · have q1 := hb x hx.1 (by omega) s1
      have q2 := s4 b (by unfold iabs; split <;> omega) h1
      omega
/-- the patch with its hunks moved applies, but for its size -/
theorem fu_apply {t : List ByteArray} {r : Int} (hr : 0 ≤ r) (ht : vC t = 0) : ∀ (p : List Hk) (least : Int) (i : Nat), (∀ h ∈ p, HkGood h) → fuM t r i least p = none → ch (least - 1) (fuP p (fuO t r least p)) ∧ ∀ h ∈ fuP p (fuO t r least p), HkGood h ∧ occ t h.2.1 h.1 = true
  | [], _, _, _, _ => ⟨True.intro, fun h hh => by cases hh⟩
  | h :: p, least, i, hp, hM => by
    unfold fuM at hM
    unfold fuO
    cases e : ofD t h r least with
    | none => rw [e] at hM; cases hM
    | some d =>
      rw [e] at hM
      dsimp only at hM ⊢
      obtain ⟨i1, i2⟩ := fu_apply hr ht p _ (i + 1) (fun k hk => hp k (List.mem_cons_of_mem _ hk)) hM
      obtain ⟨b1, b2, b3⟩ := ofD_bd hr e
      unfold ofOk at b3
      rw [Bool.and_eq_true, decide_eq_true_eq] at b3
      obtain ⟨b3, b4⟩ := b3
      obtain ⟨o0, o1, o2, -⟩ := occ_iff.1 b4
      obtain ⟨g1, g2, g3, g4, g5, g6⟩ := hp h List.mem_cons_self
      have htl := vC_len t ht
      refine ⟨⟨by show least - 1 < h.1 + d; omega, ?_⟩, fun k hk => ?_⟩
      · show ch (h.1 + d + h.2.1.length) _
        rw [show h.1 + d + (h.2.1.length : Int) + 1 - 1 = h.1 + d + h.2.1.length by omega] at i1
        exact i1
      · rcases List.mem_cons.1 (show k ∈ (h.1 + d, h.2) :: fuP p _ from hk) with rfl | hk
        · exact ⟨⟨o0, by show h.1 + d ≤ 120; omega, g3, g4, g5, by show h.1 + d + (h.2.1.length : Int) ≤ 120; omega⟩, b4⟩
        · exact i2 k hk
theorem missI_all2 {t : List ByteArray} : ∀ (p : List Hk) (i : Nat), (∀ h ∈ p, occ t h.2.1 h.1 = true) → missI t i p = none
  | [], _, _ => rfl
  | h :: p, i, ho => by
    unfold missI
    rw [if_pos (ho h List.mem_cons_self)]
    exact missI_all2 p (i + 1) fun k hk => ho k (List.mem_cons_of_mem _ hk)
theorem fu_apF {t : List ByteArray} {r : Int} {p : List Hk} (hr : 0 ≤ r) (hp : pC p = 0) (ht : vC t = 0) (hM : fuM t r 0 0 p = none) : (apF (fuP p (fuO t r 0 p)) t = if 120 < (raw t t.length 0 (fuP p (fuO t r 0 p))).length then (10, -1) else (0, 0)) := by
  obtain ⟨p1, p2, p3⟩ := pC_iff.1 hp
  obtain ⟨h1, h2⟩ := fu_apply hr ht p 0 0 p3 hM
  have hc : pC (fuP p (fuO t r 0 p)) = 0 := pC_iff.2 ⟨by rw [fuP_len]; exact p1, h1, fun h hh => (h2 h hh).1⟩
  unfold apF
  rw [if_neg (by simp [hc]), if_neg (by simp [ht]), missI_all2 _ 0 fun h hh => (h2 h hh).2]
end Go.Proofs.YtppmhjaooiameaaDoor
