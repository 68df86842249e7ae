/- Plain: the events of a formatted patch are taken, and what is collected is the patch. No program in sight. -/
import Derived.Test.YtppmhjaooiameaaDoorPrsEv
namespace Go.Proofs.YtppmhjaooiameaaDoor
open Go.RowKit

def lastK (q : List Hk) : Hk := q.getD (q.length - 1) (0, [], [])
theorem lastK_cons (h k : Hk) (q : List Hk) : lastK (h :: k :: q) = lastK (k :: q) := rfl
theorem seg_up {t : List ByteArray} {T : Int} {q : List Hk} {a e : Int} (h : seg t T a q) (h1 : a ≤ e) (h2 : ∀ k r, q = k :: r → e ≤ k.1) (h3 : e ≤ T) : seg t T e q := by
  cases q with
  | nil => obtain ⟨q1, q2, q3⟩ := h; exact ⟨by omega, h3, q3⟩
  | cons k r => obtain ⟨q1, q2, q3⟩ := h; exact ⟨by omega, h2 k r rfl, q3⟩
theorem seg_down {t : List ByteArray} {T : Int} {q : List Hk} {a e : Int} (h : seg t T a q) (h1 : e ≤ a) (h0 : 0 ≤ e) : seg t T e q := by
  cases q with
  | nil => obtain ⟨q1, q2, q3⟩ := h; exact ⟨h0, by omega, q3⟩
  | cons k r => obtain ⟨q1, q2, q3⟩ := h; exact ⟨h0, by omega, q3⟩
theorem gn_split {t : List ByteArray} {c T : Int} : ∀ (r : List Hk) (h : Hk) (a : Int), seg t T a (h :: r) →
    hkEnd (lastK ((h :: r).take (gn c h r))) ≤ T ∧ 0 ≤ hkEnd (lastK ((h :: r).take (gn c h r))) ∧
    (∀ hi, hkEnd (lastK ((h :: r).take (gn c h r))) ≤ hi → hi ≤ t.length → seg t hi a ((h :: r).take (gn c h r))) ∧
    (∀ k r', (h :: r).drop (gn c h r) = k :: r' → 2 * c < k.1 - hkEnd (lastK ((h :: r).take (gn c h r)))) ∧
    seg t T (hkEnd (lastK ((h :: r).take (gn c h r)))) ((h :: r).drop (gn c h r))
  | [], h, a, hs => by
    obtain ⟨h1, h2, h3, h4, h5, h6⟩ := hs
    obtain ⟨i1, i2, i3, -⟩ := seg_bd _ _ h6
    refine ⟨i2, i1, fun hi q1 q2 => ⟨h1, h2, h3, h4, fun k r e => (by cases e), i1, q1, q2⟩, fun k r' e => (by cases e), h6⟩
  | k :: r, h, a, hs => by
    obtain ⟨h1, h2, h3, h4, h5, h6⟩ := hs
    obtain ⟨i1, i2, i3, -⟩ := seg_bd _ _ h6
    by_cases hc : k.1 - hkEnd h ≤ 2 * c
    · have e : gn c h (k :: r) = gn c k r + 1 := (show (if k.1 - hkEnd h ≤ 2 * c then gn c k r + 1 else 1) = gn c k r + 1 from if_pos hc)
      obtain ⟨m, hm⟩ : ∃ m, gn c k r = m + 1 := ⟨gn c k r - 1, by have := gn_pos c r k; omega⟩
      obtain ⟨j0, j0', j1, j2, j3⟩ := gn_split (c := c) r k (hkEnd h) h6
      rw [e, List.take_succ_cons, List.drop_succ_cons]
      have el : lastK (h :: (k :: r).take (gn c k r)) = lastK ((k :: r).take (gn c k r)) := by rw [hm, List.take_succ_cons]; rfl
      rw [el]
      refine ⟨j0, j0', fun hi q1 q2 => ⟨h1, h2, h3, h4, fun k' r' e' => ?_, j1 hi q1 q2⟩, j2, j3⟩
      rw [hm, List.take_succ_cons] at e'
      injection e' with e1 e2
      subst e1
      exact h5 _ _ rfl
    · have e : gn c h (k :: r) = 1 := (show (if k.1 - hkEnd h ≤ 2 * c then gn c k r + 1 else 1) = 1 from if_neg hc)
      rw [e]
      refine ⟨i2, i1, fun hi q1 q2 => ⟨h1, h2, h3, h4, fun k r e => (by cases e), i1, q1, q2⟩, fun k' r' e' => ?_, h6⟩
      show 2 * c < k'.1 - hkEnd h
      have e' : k :: r = k' :: r' := e'
      injection e' with e1 e2
      subst e1
      omega
theorem fm_ok {t : List ByteArray} {c : Int} (ht : ∀ x ∈ t, lineC x = 0) (hl : t.length ≤ 120) (hc : 0 ≤ c) : ∀ (n : Nat) (q : List Hk) (g at' : Int) (ad : Bool) (cu : Option Hk), q.length ≤ n → seg t t.length at' q →
    (∀ h r, q = h :: r → at' < gLow c h ∨ (at' = gLow c h ∧ cu = none ∧ ad = false)) → 0 ≤ at' + g → t.length + g + pGrow q ≤ 120 →
    pOk (fmE t c n g q) at' 0 0 g ad cu ∧ pCol (fmE t c n g q) at' cu = cu.toList ++ q
  | 0, [], g, at', ad, cu, _, _, _, _, _ => ⟨⟨rfl, rfl⟩, by show cu.toList = _; rw [List.append_nil]⟩
  | 0, _ :: _, _, _, _, _, h, _, _, _, _ => absurd h (by simp)
  | n + 1, [], g, at', ad, cu, _, _, _, _, _ => ⟨⟨rfl, rfl⟩, by show cu.toList = _; rw [List.append_nil]⟩
  | n + 1, h :: r, g, at', ad, cu, hn, hs, hat, hg, hT => by
    obtain ⟨s0, s1, s2, s3, s4⟩ := gn_split (c := c) r h at' hs
    have hgp := gn_pos c r h
    have hsp : (h :: r).take (gn c h r) ++ (h :: r).drop (gn c h r) = h :: r := List.take_append_drop _ _
    have hG0 : ((h :: r).take (gn c h r)).getD 0 (0, [], []) = h := by
      obtain ⟨m, hm⟩ : ∃ m, gn c h r = m + 1 := ⟨gn c h r - 1, by omega⟩
      rw [hm]; rfl
    have hGc : ∃ G', (h :: r).take (gn c h r) = h :: G' := by
      obtain ⟨m, hm⟩ : ∃ m, gn c h r = m + 1 := ⟨gn c h r - 1, by omega⟩
      rw [hm]; exact ⟨_, rfl⟩
    have hlen : ((h :: r).drop (gn c h r)).length ≤ n := by rw [List.length_drop]; omega
    have hpg : pGrow ((h :: r).take (gn c h r)) + pGrow ((h :: r).drop (gn c h r)) = pGrow (h :: r) := by rw [← pGrow_append, hsp]
    show pOk (grpE t c g ((h :: r).take (gn c h r)) ++ fmE t c n (g + pGrow ((h :: r).take (gn c h r))) ((h :: r).drop (gn c h r))) at' 0 0 g ad cu ∧ pCol (grpE t c g ((h :: r).take (gn c h r)) ++ fmE t c n (g + pGrow ((h :: r).take (gn c h r))) ((h :: r).drop (gn c h r))) at' cu = cu.toList ++ (h :: r)
    rw [← hpg] at hT
    generalize (h :: r).take (gn c h r) = G at *
    generalize (h :: r).drop (gn c h r) = D at *
    obtain ⟨G', rfl⟩ := hGc
    unfold grpE
    dsimp only
    rw [hG0]
    have hat := hat h r rfl
    have hh1 := hs.2.1
    have hh0 := hs.1
    have hgl : gLow c h = max (h.1 - c) 0 := rfl
    have hgh : gHigh t c ((h :: G').getD ((h :: G').length - 1) (0, [], [])) = min (hkEnd (lastK (h :: G')) + c) t.length := rfl
    rw [hgh]
    generalize hhi : min (hkEnd (lastK (h :: G')) + c) (t.length : Int) = hi at *
    generalize hlo : gLow c h = lo at *
    have hse : hkEnd (lastK (h :: G')) ≤ hi := by omega
    have hsT : hi ≤ t.length := by omega
    have hsg := s2 hi hse hsT
    have hle : at' ≤ lo := by omega
    have hseg : seg t hi lo (h :: G') := by
      obtain ⟨q1, q2, q3⟩ := hsg
      exact ⟨by omega, by omega, q3⟩
    obtain ⟨u1, u2, u3, u4⟩ := seg_bd _ _ hseg
    obtain ⟨v1, v2, v3, ⟨w1, w2, w3, w4, w5, w6⟩, v5, v6⟩ := hseg
    obtain ⟨x1, x2, x3, x4⟩ := seg_bd _ _ v6
    have hsD : seg t t.length hi D := seg_up s4 hse (fun k r' e => by have := s3 k r' e; omega) hsT
    obtain ⟨y1, y2, y3, y4⟩ := seg_bd _ _ hsD
    have epg : pGrow (h :: G') = hkGrow h + pGrow G' := rfl
    have ih := fm_ok ht hl hc n D (g + pGrow (h :: G')) hi
    have ihA : ∀ ad cu, pOk (fmE t c n (g + pGrow (h :: G')) D) hi 0 0 (g + pGrow (h :: G')) ad cu ∧ pCol (fmE t c n (g + pGrow (h :: G')) D) hi cu = cu.toList ++ D := fun ad cu =>
      ih ad cu hlen hsD (fun k r' e => .inl (by have := s3 k r' e; unfold gLow; omega)) (by omega) (by omega)
    have hseg' : seg t hi lo (h :: G') := ⟨v1, v2, v3, ⟨w1, w2, w3, w4, w5, w6⟩, v5, v6⟩
    refine ⟨⟨rfl, rfl, ⟨v1, by omega, by omega, by omega, by omega, by omega, ?_⟩, by omega, ?_, ?_⟩, ?_⟩
    · unfold hkGrow at epg
      unfold hkEnd at x1 x2 x4
      omega
    · rcases hat with q | ⟨q1, q2, -⟩
      · exact .inl q
      · exact .inr ⟨q1, q2⟩
    · have ead : (if at' < lo then false else ad) = false := by
        rcases hat with q | ⟨-, -, q⟩
        · rw [if_pos q]
        · rw [q, ite_self]
      rw [ead]
      exact gb_ok ht (h :: G') lo g false none _ hseg' (fun _ _ _ _ => ⟨rfl, rfl⟩) fun ad cu => (ihA ad cu).1
    · show cu.toList ++ pCol (gbE t hi lo (h :: G') ++ _) lo none = _
      rw [gb_col (h :: G') lo none _ D hseg' (fun _ _ _ _ => rfl) fun cu => (ihA false cu).2]
      rw [← hsp]
      simp
/-! ### the whole -/
theorem seg_of {t : List ByteArray} {T : Int} : ∀ (p : List Hk) (a e : Int), rawOk t T a p → ch e p → (∀ h ∈ p, HkGood h) → seg t T a p
  | [], _, _, h, _, _ => h
  | h :: p, a, e, hr, hc, hg => by
    obtain ⟨r1, r2, r3, r4, r5, r6⟩ := hr
    refine ⟨r1, r2, r3, hg h (by simp), fun k r e1 => ?_, seg_of p _ _ r6 hc.2 fun k hk => hg k (by simp [hk])⟩
    have := hc.2
    rw [e1] at this
    exact this.1
theorem raw_length {t : List ByteArray} {T : Int} : ∀ (p : List Hk) (a : Int), seg t T a p → ((raw t T a p).length : Int) = T - a + pGrow p
  | [], a, h => by
    obtain ⟨h1, h2, h3⟩ := h
    show (((t.take T.toNat).drop a.toNat).length : Int) = T - a + 0
    rw [List.length_drop, List.length_take]; omega
  | h :: p, a, hs => by
    obtain ⟨h1, h2, h3, h4, h5, h6⟩ := hs
    have ih := raw_length p _ h6
    have e := sub_length h1 h2 h3
    show (((t.take h.1.toNat).drop a.toNat ++ h.2.2 ++ raw t T (hkEnd h) p).length : Int) = T - a + (hkGrow h + pGrow p)
    have e : (((t.take h.1.toNat).drop a.toNat).length : Int) = h.1 - a := e
    rw [List.length_append, List.length_append]
    unfold hkGrow
    unfold hkEnd at ih
    unfold hkEnd
    omega
theorem gLow_nonneg (c : Int) (h : Hk) : 0 ≤ gLow c h := by unfold gLow; omega
theorem whole {t : List ByteArray} {p : List Hk} {c : Int} (hr : rawOk t t.length 0 p) (hp : pC p = 0) (ht : vC t = 0) (hl : (raw t t.length 0 p).length ≤ 120) (hc : 0 ≤ c) :
    fmL t p c = evT (fmE t c p.length 0 p) ∧ pOk (fmE t c p.length 0 p) 0 0 0 0 false none ∧ pCol (fmE t c p.length 0 p) 0 none = p := by
  obtain ⟨p1, p2, p3⟩ := pC_iff.1 hp
  have hs := seg_of p 0 _ hr p2 p3
  have el := raw_length p 0 hs
  obtain ⟨q1, q2⟩ := fm_ok (c := c) (vC_lines ht) (vC_len t ht) hc p.length p 0 0 false none (Nat.le_refl _) hs (fun h r _ => by
    have := gLow_nonneg c h
    rcases Int.lt_or_eq_of_le this with q | q
    · exact .inl q
    · exact .inr ⟨q, rfl, rfl⟩) (by omega) (by omega)
  exact ⟨(fmE_T t c p.length 0 p).symm, q1, q2⟩
end Go.Proofs.YtppmhjaooiameaaDoor
