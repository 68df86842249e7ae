/- Plain: applying a patch as a relation between two texts; what apF and apL are by it. -/
import Derived.Test.YtppmhjaooiameaaDoorUndoPure
namespace Go.Proofs.YtppmhjaooiameaaDoor
open Go.RowKit

/-- the hunks `p` lead from the lines `t`, which begin at line `lo`, to the lines `s` -/
def Ap : List Hk → Int → List ByteArray → List ByteArray → Prop
  | [], _, t, s => s = t
  | h :: p, lo, t, s => ∃ m t' s', ((m.length : Nat) : Int) = h.1 - lo ∧ t = m ++ (h.2.1 ++ t') ∧ s = m ++ (h.2.2 ++ s') ∧ Ap p (hkEnd h) t' s'

/-- the hunks stand in order, apart, behind `e` -/
def ch : Int → List Hk → Prop
  | _, [] => True
  | e, h :: p => e < h.1 ∧ ch (hkEnd h) p
theorem ch_le {e e' : Int} (h : e' ≤ e) : ∀ {p : List Hk}, ch e p → ch e' p
  | [], _ => True.intro
  | _ :: _, q => ⟨by have := q.1; omega, q.2⟩
theorem hkEnd_ge (h : Hk) : h.1 ≤ hkEnd h := by unfold hkEnd; omega
theorem ch_all : ∀ {p : List Hk} {e : Int}, ch e p → ∀ h ∈ p, e < h.1
  | [], _, _, h, hm => by simp at hm
  | g :: p, e, q, h, hm => by
    rcases List.mem_cons.1 hm with rfl | hm
    · exact q.1
    · have := ch_all q.2 h hm
      have := hkEnd_ge g
      have := q.1
      omega
theorem phC_ch : ∀ (p : List Hk) (e : Int), phC e p = 0 → ch e p
  | [], _, _ => True.intro
  | g :: p, e, hp => by
    unfold phC at hp
    split at hp
    · rename_i hc
      exact ⟨(hkC_good.1 hc).2.2.2.2.2.1, phC_ch p _ hp⟩
    · contradiction
/-- what a hunk must be in itself -/
def HkGood (h : Hk) : Prop := 0 ≤ h.1 ∧ h.1 ≤ 120 ∧ vC h.2.1 = 0 ∧ vC h.2.2 = 0 ∧ 0 < h.2.1.length + h.2.2.length ∧ h.1 + h.2.1.length ≤ 120
theorem phC_iff : ∀ (p : List Hk) (e : Int), phC e p = 0 ↔ ch e p ∧ ∀ h ∈ p, HkGood h
  | [], _ => by simp [phC, ch]
  | g :: p, e => by
    unfold phC
    constructor
    · intro hp
      split at hp
      · rename_i hc
        obtain ⟨q1, q2, q3, q4, q5, q6, q7⟩ := hkC_good.1 hc
        obtain ⟨i1, i2⟩ := (phC_iff p _).1 hp
        refine ⟨⟨q6, i1⟩, fun h hm => ?_⟩
        rcases List.mem_cons.1 hm with rfl | hm
        · exact ⟨q1, q2, q3, q4, q5, q7⟩
        · exact i2 h hm
      · contradiction
    · rintro ⟨⟨h1, h2⟩, h3⟩
      obtain ⟨q1, q2, q3, q4, q5, q7⟩ := h3 g (by simp)
      rw [if_pos (hkC_good.2 ⟨q1, q2, q3, q4, q5, h1, q7⟩)]
      exact (phC_iff p _).2 ⟨h2, fun h hm => h3 h (by simp [hm])⟩
theorem pC_iff {p : List Hk} : pC p = 0 ↔ p.length ≤ 130 ∧ ch (-1) p ∧ ∀ h ∈ p, HkGood h := by
  unfold pC
  constructor
  · intro h
    split at h
    · exact absurd h (by decide)
    · exact ⟨by omega, (phC_iff p _).1 h⟩
  · rintro ⟨h1, h2⟩
    rw [if_neg (by omega)]
    exact (phC_iff p _).2 h2

theorem ap_of (t : List ByteArray) : ∀ (p : List Hk) (lo : Int), 0 ≤ lo → lo ≤ t.length → ch (lo - 1) p → (∀ h ∈ p, occ t h.2.1 h.1 = true) → Ap p lo (t.drop lo.toNat) (raw t t.length lo p)
  | [], lo, h0, h1, _, _ => by
    show (t.take (t.length : Int).toNat).drop lo.toNat = _
    rw [Int.toNat_natCast, List.take_length]
  | (a, o, n) :: p, lo, h0, h1, hc, ho => by
    obtain ⟨c1, c2⟩ := hc
    replace c1 : lo - 1 < a := c1
    obtain ⟨w1, w2, w3, w4⟩ := occ_iff.1 (ho (a, o, n) (by simp))
    replace w1 : 0 ≤ a := w1
    replace w2 : a ≤ t.length := w2
    replace w3 : (o.length : Int) ≤ t.length - a := w3
    replace w4 : (t.take (a + o.length).toNat).drop a.toNat = o := w4
    have he : hkEnd (a, o, n) = a + o.length := rfl
    have ih := ap_of t p (hkEnd (a, o, n)) (by rw [he]; omega) (by rw [he]; omega) (ch_le (by omega) c2) fun x hx => ho x (by simp [hx])
    refine ⟨(t.take a.toNat).drop lo.toNat, t.drop (hkEnd (a, o, n)).toNat, raw t t.length (hkEnd (a, o, n)) p, ?_, ?_, ?_, ih⟩
    · show _ = a - lo
      rw [List.length_drop, List.length_take]; omega
    · show _ = _ ++ (o ++ _)
      have e3 : (a + (o.length : Int)).toNat = a.toNat + o.length := by omega
      rw [he]
      rw [e3] at w4 ⊢
      rw [List.drop_take, Nat.add_sub_cancel_left] at w4
      have e4 : t.drop a.toNat = o ++ t.drop (a.toNat + o.length) := by
        conv => lhs; rw [← List.take_append_drop o.length (t.drop a.toNat), List.drop_drop, w4]
      rw [← e4, List.drop_take]
      conv => lhs; rw [← List.take_append_drop (a.toNat - lo.toNat) (t.drop lo.toNat), List.drop_drop]
      congr 2
      omega
    · show (t.take a.toNat).drop lo.toNat ++ n ++ raw t t.length (hkEnd (a, o, n)) p = _
      rw [List.append_assoc]
theorem ap_to (t : List ByteArray) : ∀ (p : List Hk) (lo : Int) (s : List ByteArray), 0 ≤ lo → lo ≤ t.length → Ap p lo (t.drop lo.toNat) s → (∀ h ∈ p, occ t h.2.1 h.1 = true) ∧ raw t t.length lo p = s
  | [], lo, s, h0, h1, h => by
    refine ⟨fun x hx => by simp at hx, ?_⟩
    rw [show s = _ from h]
    show (t.take (t.length : Int).toNat).drop lo.toNat = _
    rw [Int.toNat_natCast, List.take_length]
  | (a, o, n) :: p, lo, s, h0, h1, h => by
    obtain ⟨m, t', s', e1, e2, e3, e4⟩ := h
    replace e1 : (m.length : Int) = a - lo := e1
    replace e2 : t.drop lo.toNat = m ++ (o ++ t') := e2
    replace e3 : s = m ++ (n ++ s') := e3
    have he : hkEnd (a, o, n) = a + o.length := rfl
    have hl : t.length = lo.toNat + (m.length + (o.length + t'.length)) := by
      have := congrArg List.length e2
      rw [List.length_drop, List.length_append, List.length_append] at this
      omega
    have d1 : t.drop (hkEnd (a, o, n)).toNat = t' := by
      have : (hkEnd (a, o, n)).toNat = lo.toNat + (m.length + o.length) := by rw [he]; omega
      rw [this, ← List.drop_drop, e2, ← List.append_assoc, ← List.length_append, List.drop_left]
    have hm : (t.take a.toNat).drop lo.toNat = m := by
      rw [List.drop_take, e2, show a.toNat - lo.toNat = m.length by omega, List.take_left]
    rw [← d1] at e4
    obtain ⟨i1, i2⟩ := ap_to t p _ s' (by rw [he]; omega) (by rw [he]; omega) e4
    refine ⟨fun x hx => ?_, ?_⟩
    · rcases List.mem_cons.1 hx with rfl | hx
      · refine occ_iff.2 ⟨?_, ?_, ?_, ?_⟩
        · show 0 ≤ a; omega
        · show a ≤ t.length; omega
        · show (o.length : Int) ≤ t.length - a; omega
        · show (t.take (a + o.length).toNat).drop a.toNat = o
          have : t.drop a.toNat = o ++ t' := by
            rw [show a.toNat = lo.toNat + m.length by omega, ← List.drop_drop, e2, List.drop_left]
          rw [List.drop_take, this, show (a + (o.length : Int)).toNat - a.toNat = o.length by omega, List.take_left]
      · exact i1 x hx
    · show (t.take a.toNat).drop lo.toNat ++ n ++ raw t t.length (hkEnd (a, o, n)) p = s
      rw [hm, i2, e3, List.append_assoc]
theorem Ap.mem : ∀ {p : List Hk} {lo : Int} {t s : List ByteArray}, Ap p lo t s → ∀ x ∈ s, x ∈ t ∨ ∃ h ∈ p, x ∈ h.2.2
  | [], _, _, _, h, x, hx => .inl (by rw [show _ = _ from h] at hx; exact hx)
  | h :: p, lo, t, s, ha, x, hx => by
    obtain ⟨m, t', s', -, e2, e3, e4⟩ := ha
    rw [e3, List.mem_append, List.mem_append] at hx
    rcases hx with hx | hx | hx
    · exact .inl (by rw [e2, List.mem_append]; exact .inl hx)
    · exact .inr ⟨h, by simp, hx⟩
    · rcases e4.mem x hx with q | ⟨g, q1, q2⟩
      · exact .inl (by rw [e2, List.mem_append, List.mem_append]; exact .inr (.inr q))
      · exact .inr ⟨g, by simp [q1], q2⟩
theorem Ap.inv : ∀ {p : List Hk} {lo g : Int} {t s : List ByteArray}, Ap p lo t s → Ap (pInv g p) (lo + g) s t
  | [], _, _, _, _, h => (show _ = _ from h).symm
  | h :: p, lo, g, t, s, ha => by
    obtain ⟨m, t', s', e1, e2, e3, e4⟩ := ha
    refine ⟨m, s', t', ?_, e3, e2, ?_⟩
    · show _ = h.1 + g - (lo + g); omega
    · have := e4.inv (g := g + hkGrow h)
      rw [show hkEnd (hkInv g h) = hkEnd h + (g + hkGrow h) by unfold hkInv hkEnd hkGrow; dsimp only; omega]
      exact this
theorem Ap.len : ∀ {p : List Hk} {lo : Int} {t s : List ByteArray}, Ap p lo t s → (s.length : Int) = t.length + pGrow p
  | [], _, _, _, h => by rw [show _ = _ from h]; simp [pGrow]
  | h :: p, lo, t, s, ha => by
    obtain ⟨m, t', s', e1, e2, e3, e4⟩ := ha
    have := e4.len
    rw [e2, e3]
    simp only [List.length_append, pGrow, hkGrow]
    omega
/-- a piece laid in front -/
theorem Ap.front {L : List Hk} {lo lo' : Int} {t s : List ByteArray} (h : Ap L lo' t s) (c : List ByteArray) (hc : (c.length : Int) = lo' - lo) : Ap L lo (c ++ t) (c ++ s) := by
  cases L with
  | nil => exact congrArg (c ++ ·) h
  | cons k L =>
    obtain ⟨m, t', s', e1, e2, e3, e4⟩ := h
    exact ⟨c ++ m, t', s', by rw [List.length_append]; omega, by rw [e2, List.append_assoc], by rw [e3, List.append_assoc], e4⟩
/-- a piece in front of the first hunk -/
theorem Ap.cut {L : List Hk} {lo lo' : Int} {t s : List ByteArray} {c : List ByteArray} (h : Ap L lo (c ++ t) s) (hc : (c.length : Int) = lo' - lo) (hf : ∀ k ∈ L, lo' ≤ k.1) : ∃ s', s = c ++ s' ∧ Ap L lo' t s' := by
  cases L with
  | nil => exact ⟨t, h, rfl⟩
  | cons k L =>
    obtain ⟨m, t', s', e1, e2, e3, e4⟩ := h
    have := hf k (by simp)
    have hp : c <+: m := List.prefix_of_prefix_length_le (l₃ := c ++ t) ⟨t, rfl⟩ ⟨_, e2.symm⟩ (by omega)
    obtain ⟨d, rfl⟩ := hp
    rw [List.append_assoc] at e2 e3
    exact ⟨d ++ (k.2.2 ++ s'), e3, d, t', s', by rw [List.length_append] at e1; omega, List.append_cancel_left e2, rfl, e4⟩
theorem Ap.cut' {L : List Hk} {lo lo' : Int} {t s : List ByteArray} {c : List ByteArray} (h : Ap L lo t (c ++ s)) (hc : (c.length : Int) = lo' - lo) (hf : ∀ k ∈ L, lo' ≤ k.1) : ∃ t', t = c ++ t' ∧ Ap L lo' t' s := by
  cases L with
  | nil => exact ⟨s, (show _ = _ from h).symm, rfl⟩
  | cons k L =>
    obtain ⟨m, t', s', e1, e2, e3, e4⟩ := h
    have := hf k (by simp)
    have hp : c <+: m := List.prefix_of_prefix_length_le (l₃ := c ++ s) ⟨s, rfl⟩ ⟨_, e3.symm⟩ (by omega)
    obtain ⟨d, rfl⟩ := hp
    rw [List.append_assoc] at e2 e3
    exact ⟨d ++ (k.2.1 ++ t'), e2, d, t', s', by rw [List.length_append] at e1; omega, rfl, List.append_cancel_left e3, e4⟩

/-- what a patch that is taken does to a text that is taken -/
theorem ap_apply {p : List Hk} {t : List ByteArray} (h : (apF p t).1 = 0) : pC p = 0 ∧ vC t = 0 ∧ Ap p 0 t (apL p t) ∧ (apL p t).length ≤ 120 ∧ vC (apL p t) = 0 := by
  obtain ⟨c1, c2, c3, c4⟩ := apF_good h
  have e1 : apL p t = raw t t.length 0 p := if_pos h
  have ha := ap_of t p 0 (Int.le_refl _) (by omega) (pC_iff.1 c1).2.1 (missI_none p 0 c3)
  rw [← e1] at ha c4
  have ha : Ap p 0 t (apL p t) := ha
  refine ⟨c1, c2, ha, c4, (vC_good _).2 ⟨c4, fun x hx => ?_⟩⟩
  rcases ha.mem x hx with q | ⟨g, q1, q2⟩
  · exact ((vC_good t).1 c2).2 x q
  · exact ((vC_good _).1 ((pC_iff.1 c1).2.2 g q1).2.2.2.1).2 x q2
/-- a patch that is taken and leads from a text that is taken to another: the result, or too large -/
theorem apply_ap {p : List Hk} {t s : List ByteArray} (h1 : pC p = 0) (h2 : vC t = 0) (h3 : Ap p 0 t s) : if s.length ≤ 120 then apF p t = (0, 0) ∧ apL p t = s else apF p t = (10, -1) ∧ apL p t = [] := by
  obtain ⟨i1, i2⟩ := ap_to t p 0 s (Int.le_refl _) (by omega) h3
  have e : apF p t = if 120 < s.length then (10, -1) else (0, 0) := by
    unfold apF
    rw [if_neg (by rw [h1]; decide), if_neg (by rw [h2]; decide), missI_all p 0 i1, i2]
  split
  · rename_i hl
    have e' : apF p t = (0, 0) := e.trans (if_neg (by omega))
    exact ⟨e', (if_pos (by rw [e'])).trans i2⟩
  · rename_i hl
    have e' : apF p t = (10, -1) := e.trans (if_pos (by omega))
    exact ⟨e', if_neg (by rw [e']; decide)⟩
theorem apply_ok {p : List Hk} {t s : List ByteArray} (h1 : pC p = 0) (h2 : vC t = 0) (h3 : Ap p 0 t s) (h4 : s.length ≤ 120) : (apF p t).1 = 0 ∧ apL p t = s := by
  have := apply_ap h1 h2 h3
  rw [if_pos h4] at this
  exact ⟨by rw [this.1], this.2⟩
theorem apply_or {p : List Hk} {t s : List ByteArray} (h1 : pC p = 0) (h2 : vC t = 0) (h3 : Ap p 0 t s) (h4 : ¬ (apF p t).1 = 10) : (apF p t).1 = 0 ∧ apL p t = s := by
  have := apply_ap h1 h2 h3
  split at this
  · exact ⟨by rw [this.1], this.2⟩
  · exact absurd (by rw [this.1]) h4
end Go.Proofs.YtppmhjaooiameaaDoor
