/- Plain law: the inverse of a patch restores the text. -/
import Derived.Test.YtppmhjaooiameaaDoorPatPure
namespace Go.Proofs.YtppmhjaooiameaaDoor
open Go.RowKit

theorem occ_iff {t o : List ByteArray} {a : Int} : occ t o a = true ↔ 0 ≤ a ∧ a ≤ t.length ∧ (o.length : Int) ≤ t.length - a ∧ (t.take (a + o.length).toNat).drop a.toNat = o := by
  unfold occ
  simp only [Bool.and_eq_true, decide_eq_true_eq]
  constructor
  · rintro ⟨⟨⟨h1, h2⟩, h3⟩, h4⟩; exact ⟨h1, h2, h3, h4⟩
  · rintro ⟨h1, h2, h3, h4⟩; exact ⟨⟨⟨h1, h2⟩, h3⟩, h4⟩
theorem undo (t : List ByteArray) : ∀ (p : List Hk) (low g : Int) (O s : List ByteArray), rawOk t t.length low p → (∀ h ∈ p, occ t h.2.1 h.1 = true) → (O.length : Int) = low + g → s = O ++ raw t t.length low p →
    (∀ h ∈ pInv g p, occ s h.2.1 h.1 = true) ∧ raw s s.length (low + g) (pInv g p) = t.drop low.toNat
  | [], low, g, O, s, hr, _, hO, hs => by
    obtain ⟨h0, h1, -⟩ := hr
    refine ⟨fun h hm => by simp [pInv] at hm, ?_⟩
    have e : raw t t.length low [] = t.drop low.toNat := by
      show (t.take (t.length : Int).toNat).drop low.toNat = _
      rw [Int.toNat_natCast, List.take_length]
    rw [e] at hs
    show (s.take (s.length : Int).toNat).drop (low + g).toNat = _
    rw [Int.toNat_natCast, List.take_length, hs, ← hO, Int.toNat_natCast, List.drop_left]
  | h :: p, low, g, O, s, hr, ho, hO, hs => by
    obtain ⟨a, o, n⟩ := h
    obtain ⟨h0, h1, h2, -, -, h5⟩ := hr
    replace h1 : low ≤ a := h1
    replace h2 : a ≤ t.length := h2
    have hoc := ho (a, o, n) (by simp)
    obtain ⟨w1, w2, w3, w4⟩ := occ_iff.1 hoc
    replace w3 : (o.length : Int) ≤ t.length - a := w3
    replace w4 : (t.take (a + o.length).toNat).drop a.toNat = o := w4
    have hs' : s = (O ++ (t.take a.toNat).drop low.toNat ++ n) ++ raw t t.length (a + o.length) p := by
      rw [hs]
      show O ++ ((t.take a.toNat).drop low.toNat ++ n ++ raw t t.length (hkEnd (a, o, n)) p) = _
      simp only [List.append_assoc]; rfl
    have hl1 : ((t.take a.toNat).drop low.toNat).length = (a - low).toNat := by rw [List.length_drop, List.length_take]; omega
    have hO' : ((O ++ (t.take a.toNat).drop low.toNat ++ n).length : Int) = (a + o.length) + (g + hkGrow (a, o, n)) := by
      rw [List.length_append, List.length_append, hl1]
      show _ = (a + o.length) + (g + ((n.length : Int) - o.length))
      omega
    obtain ⟨i1, i2⟩ := undo t p (a + o.length) (g + hkGrow (a, o, n)) _ s h5 (fun x hx => ho x (by simp [hx])) hO' hs'
    have hla : (a + g).toNat = (O ++ (t.take a.toNat).drop low.toNat).length := by rw [List.length_append, hl1]; omega
    have htk : s.take (a + g).toNat = O ++ (t.take a.toNat).drop low.toNat := by
      rw [hs', List.append_assoc, hla, List.take_left]
    refine ⟨fun x hx => ?_, ?_⟩
    · rcases List.mem_cons.1 (show x ∈ hkInv g (a, o, n) :: pInv (g + hkGrow (a, o, n)) p from hx) with rfl | hx
      · show occ s n (a + g) = true
        have hsl : (s.length : Int) ≥ (O ++ (t.take a.toNat).drop low.toNat).length + n.length := by rw [hs', List.length_append, List.length_append]; omega
        refine occ_iff.2 ⟨by omega, by omega, by omega, ?_⟩
        have e1 : (a + g + n.length).toNat = (O ++ (t.take a.toNat).drop low.toNat ++ n).length := by rw [List.length_append, ← hla]; omega
        rw [e1, hs', List.take_left, hla, List.drop_left]
      · exact i1 x hx
    · show (s.take (a + g).toNat).drop (low + g).toNat ++ o ++ raw s s.length (hkEnd (hkInv g (a, o, n))) (pInv (g + hkGrow (a, o, n)) p) = t.drop low.toNat
      have e2 : hkEnd (hkInv g (a, o, n)) = (a + o.length) + (g + hkGrow (a, o, n)) := by
        show a + g + (n.length : Int) = (a + o.length) + (g + ((n.length : Int) - o.length))
        omega
      rw [e2, i2, htk, ← hO, Int.toNat_natCast, List.drop_left]
      have e3 : (a + (o.length : Int)).toNat = a.toNat + o.length := by omega
      rw [e3] at w4 ⊢
      have e6 := w4
      rw [List.drop_take, Nat.add_sub_cancel_left] at e6
      have e4 : t.drop a.toNat = o ++ t.drop (a.toNat + o.length) := by
        conv => lhs; rw [← List.take_append_drop o.length (t.drop a.toNat), List.drop_drop, e6]
      rw [List.append_assoc, ← e4]
      have e5 : t.drop low.toNat = (t.drop low.toNat).take (a.toNat - low.toNat) ++ t.drop a.toNat := by
        conv => lhs; rw [← List.take_append_drop (a.toNat - low.toNat) (t.drop low.toNat), List.drop_drop]
        congr 2
        omega
      rw [e5, List.drop_take]
theorem raw_mem {t : List ByteArray} {high : Int} {x : ByteArray} : ∀ (p : List Hk) (low : Int), x ∈ raw t high low p → x ∈ t ∨ ∃ h ∈ p, x ∈ h.2.2
  | [], low, hx => .inl (List.mem_of_mem_take (List.mem_of_mem_drop (show x ∈ (t.take high.toNat).drop low.toNat from hx)))
  | h :: p, low, hx => by
    have hx : x ∈ (t.take h.1.toNat).drop low.toNat ++ h.2.2 ++ raw t high (hkEnd h) p := hx
    rw [List.mem_append, List.mem_append] at hx
    rcases hx with (hx | hx) | hx
    · exact .inl (List.mem_of_mem_take (List.mem_of_mem_drop hx))
    · exact .inr ⟨h, by simp, hx⟩
    · rcases raw_mem p _ hx with q | ⟨g, q1, q2⟩
      · exact .inl q
      · exact .inr ⟨g, by simp [q1], q2⟩
theorem phC_lines : ∀ (p : List Hk) (e : Int), phC e p = 0 → ∀ h ∈ p, vC h.2.2 = 0
  | [], _, _, h, hm => by simp at hm
  | g :: p, e, hp, h, hm => by
    unfold phC at hp
    split at hp
    · rename_i hc
      rcases List.mem_cons.1 hm with rfl | hm
      · exact (hkC_good.1 hc).2.2.2.1
      · exact phC_lines p _ hp h hm
    · contradiction
theorem missI_all {t : List ByteArray} : ∀ (p : List Hk) (i : Nat), (∀ h ∈ p, occ t h.2.1 h.1 = true) → missI t i p = none
  | [], _, _ => rfl
  | h :: p, i, ho => by
    unfold missI
    rw [if_pos (ho h (by simp))]
    exact missI_all p _ fun x hx => ho x (by simp [hx])
theorem apF_good {p : List Hk} {t : List ByteArray} (h : (apF p t).1 = 0) : pC p = 0 ∧ vC t = 0 ∧ missI t 0 p = none ∧ (raw t t.length 0 p).length ≤ 120 := by
  unfold apF at h
  split at h
  · rename_i h1; exact absurd h h1
  rename_i h1
  split at h
  · rename_i h2; exact absurd h h2
  rename_i h2
  split at h
  · exact absurd (show (19 : Int) = 0 from h) (by decide)
  · rename_i h3
    split at h
    · exact absurd (show (10 : Int) = 0 from h) (by decide)
    · rename_i h4
      exact ⟨Classical.not_not.1 h1, Classical.not_not.1 h2, h3, by omega⟩
theorem apF_of {p : List Hk} {t : List ByteArray} (h1 : pC p = 0) (h2 : vC t = 0) (h3 : missI t 0 p = none) (h4 : (raw t t.length 0 p).length ≤ 120) : apF p t = (0, 0) := by
  unfold apF
  rw [if_neg (by rw [h1]; decide), if_neg (by rw [h2]; decide), h3]
  exact if_neg (by omega)
theorem ivC_good {p : List Hk} (h : ivC p = 0) : pC (pInv 0 p) = 0 ∧ ivP p = pInv 0 p := by
  have h1 : pC p = 0 := by
    unfold ivC at h
    split at h
    · assumption
    · contradiction
  have h2 : pC (pInv 0 p) = 0 := by
    unfold ivC at h
    rw [if_pos h1] at h
    split at h
    · assumption
    · exact absurd h (by decide)
  exact ⟨h2, if_pos ⟨h1, h2⟩⟩
theorem undo_law {p : List Hk} {t : List ByteArray} (h : (apF p t).1 = 0) (hi : ivC p = 0) : (apF (ivP p) (apL p t)).1 = 0 ∧ apL (ivP p) (apL p t) = t := by
  obtain ⟨c1, c2, c3, c4⟩ := apF_good h
  obtain ⟨d1, d2⟩ := ivC_good hi
  have e1 : apL p t = raw t t.length 0 p := if_pos h
  have hall := missI_none p 0 c3
  have htl := vC_len t c2
  have hph : phC (-1) p = 0 := by
    have := c1
    unfold pC at this
    rw [if_neg (by have := (pC_ok c1).1; omega)] at this
    exact this
  have hok : rawOk t t.length 0 p := rawOk_of htl p (-1) 0 hph (Int.le_refl _) (.inl (by decide)) (by omega) hall
  obtain ⟨u1, u2⟩ := undo t p 0 0 [] _ hok hall rfl rfl
  have u2 : raw ([] ++ raw t t.length 0 p) (([] ++ raw t t.length 0 p).length : Int) 0 (pInv 0 p) = t := u2
  rw [List.nil_append] at u1 u2
  rw [d2, e1]
  have hv : vC (raw t t.length 0 p) = 0 := (vC_good _).2 ⟨c4, fun x hx => by
    rcases raw_mem p _ hx with q | ⟨g, q1, q2⟩
    · exact ((vC_good t).1 c2).2 x q
    · exact ((vC_good _).1 (phC_lines p _ hph g q1)).2 x q2⟩
  have e2 : apF (pInv 0 p) (raw t t.length 0 p) = (0, 0) := apF_of d1 hv (missI_all _ 0 u1) (by rw [u2]; exact htl)
  exact ⟨by rw [e2], (if_pos (by rw [e2])).trans u2⟩
end Go.Proofs.YtppmhjaooiameaaDoor
