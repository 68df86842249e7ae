/- Three-way merges without conflicts: regions that cover the hunks; the text that results. -/
import Derived.Test.YtppmhjaooiameaaM3Law
namespace Go.Proofs.Ytppmhjaooiameaa
open Go.RowKit

theorem part_split {α : Type} (t : List α) {a b c : Nat} (h1 : a ≤ b) (h2 : b ≤ c) : (t.take c).drop a = (t.take b).drop a ++ (t.take c).drop b := by
  have e : (t.take c) = t.take b ++ (t.take c).drop b := by
    have := List.take_append_drop b (t.take c)
    rw [List.take_take, Nat.min_eq_left h2] at this
    exact this.symm
  conv => lhs; rw [e]
  rw [List.drop_append, List.length_take]
  by_cases hb : b ≤ t.length
  · rw [Nat.min_eq_left hb, show a - b = 0 by omega, List.drop_zero]
  · have e1 : (t.take c).drop b = [] := List.drop_eq_nil_of_le (by rw [List.length_take]; omega)
    rw [e1, List.drop_nil]
/-- hunks within lines -/
def inside (lo hi : Int) (p : List Hk) : Prop := ∀ h ∈ p, lo ≤ h.1 ∧ hkEnd h ≤ hi
theorem raw_front (t : List ByteArray) (n : Int) {a b : Int} (h0 : 0 ≤ a) (h1 : a ≤ b) (hb : b ≤ n) : ∀ (p : List Hk), (∀ h ∈ p, b ≤ h.1) → raw t n a p = (t.take b.toNat).drop a.toNat ++ raw t n b p
  | [], _ => part_split t (by omega) (by omega)
  | h :: p, hp => by
    have := hp h List.mem_cons_self
    show (t.take h.1.toNat).drop a.toNat ++ h.2.2 ++ raw t n (hkEnd h) p = (t.take b.toNat).drop a.toNat ++ ((t.take h.1.toNat).drop b.toNat ++ h.2.2 ++ raw t n (hkEnd h) p)
    rw [part_split t (a := a.toNat) (b := b.toNat) (c := h.1.toNat) (by omega) (by omega)]
    simp only [List.append_assoc]
theorem raw_split (t : List ByteArray) (n r2 : Int) (hr : r2 ≤ n) : ∀ (p1 p2 : List Hk) (r1 : Int), 0 ≤ r1 → r1 ≤ r2 → ch (r1 - 1) p1 → inside r1 r2 p1 → (∀ h ∈ p2, r2 ≤ h.1) → raw t n r1 (p1 ++ p2) = raw t r2 r1 p1 ++ raw t n r2 p2
  | [], p2, r1, h0, h1, _, _, h2 => raw_front t n h0 h1 hr p2 h2
  | h :: p, p2, r1, h0, h1, hc, hi, h2 => by
    have q1 := hi h List.mem_cons_self
    have q2 := hkEnd_ge h
    have ih := raw_split t n r2 hr p p2 (hkEnd h) (by omega) q1.2 (ch_le (by omega) hc.2) (fun k hk => ⟨by have := ch_all hc.2 k hk; omega, (hi k (List.mem_cons_of_mem _ hk)).2⟩) h2
    show (t.take h.1.toNat).drop r1.toNat ++ h.2.2 ++ raw t n (hkEnd h) (p ++ p2) = ((t.take h.1.toNat).drop r1.toNat ++ h.2.2 ++ raw t r2 (hkEnd h) p) ++ raw t n r2 p2
    rw [ih]
    simp only [List.append_assoc]
theorem plF_plF (s : MSt) (a b : List ByteArray) : plF (plF s a) b = plF s (a ++ b) := by
  by_cases ha : a.length = 0
  · rw [List.eq_nil_of_length_eq_zero ha, List.nil_append]; rfl
  · obtain ⟨x, o⟩ := s
    by_cases hb : b.length = 0
    · rw [List.eq_nil_of_length_eq_zero hb, List.append_nil]
      exact if_pos rfl
    · unfold plF
      rw [if_neg ha, if_neg hb, if_neg (by rw [List.length_append]; omega)]
      cases o with
      | none => rfl
      | some m => show (x, some ((m ++ a) ++ b)) = (x, some (m ++ (a ++ b))); rw [List.append_assoc]
/-- regions apartR from one another -/
def apartR (l : List Pr2) : Prop := l.Pairwise fun a b => a.2 < b.1
def cover (m : List Hk) (l : List Pr2) : Prop := ∀ h ∈ m, ∃ r ∈ l, r.1 ≤ h.1 ∧ hkEnd h ≤ r.2
theorem inR_in {p : List Hk} {lo hi : Int} (h : inside lo hi p) : inR p lo hi = p := List.filter_eq_self.2 fun x hx => by
  have := h x hx
  rw [Bool.and_eq_true]
  exact ⟨decide_eq_true this.1, decide_eq_true this.2⟩
theorem inR_out {p : List Hk} {lo hi : Int} (h : ∀ x ∈ p, ¬ (lo ≤ x.1 ∧ hkEnd x ≤ hi)) : inR p lo hi = [] := List.filter_eq_nil_iff.2 fun x hx => by
  rw [Bool.and_eq_true]
  exact fun z => h x hx ⟨of_decide_eq_true z.1, of_decide_eq_true z.2⟩
theorem inR_app (p q : List Hk) (lo hi : Int) : inR (p ++ q) lo hi = inR p lo hi ++ inR q lo hi := List.filter_append ..
theorem cov_split {r : Pr2} {l : List Pr2} (hl : apartR (r :: l)) : ∀ {m : List Hk} {e : Int}, ch e m → cover m (r :: l) → ∃ m1 m2, m = m1 ++ m2 ∧ inside r.1 r.2 m1 ∧ (∀ h ∈ m2, r.2 < h.1) ∧ cover m2 l
  | [], _, _, _ => ⟨[], [], rfl, fun h hh => (by cases hh), fun h hh => (by cases hh), fun h hh => (by cases hh)⟩
  | h :: m, e, hc, hv => by
    obtain ⟨r', hr', h1, h2⟩ := hv h List.mem_cons_self
    rcases List.mem_cons.1 hr' with rfl | hr'
    · obtain ⟨m1, m2, e1, e2, e3, e4⟩ := cov_split hl hc.2 (fun k hk => hv k (List.mem_cons_of_mem _ hk))
      refine ⟨h :: m1, m2, by rw [e1]; rfl, fun k hk => ?_, e3, e4⟩
      rcases List.mem_cons.1 hk with rfl | hk
      · exact ⟨h1, h2⟩
      · exact e2 k hk
    · have hlt := (List.pairwise_cons.1 hl).1 r' hr'
      have all : ∀ k ∈ h :: m, r.2 < k.1 := by
        intro k hk
        rcases List.mem_cons.1 hk with rfl | hk
        · omega
        · have := ch_all hc.2 k hk
          have := hkEnd_ge h
          omega
      refine ⟨[], h :: m, rfl, fun k hk => (by cases hk), all, fun k hk => ?_⟩
      obtain ⟨r2, g1, g2, g3⟩ := hv k hk
      rcases List.mem_cons.1 g1 with rfl | g1
      · have := all k hk
        have := hkEnd_ge k
        omega
      · exact ⟨r2, g1, g2, g3⟩
theorem mgN_plain {base : List ByteArray} {p q : List Hk} : ∀ (l : List Pr2) (a : Int) (s : MSt) (m : List Hk), rgnOk base.length a l → apartR l → ch (a - 1) m → cover m l → (∀ r ∈ l, ∀ s, mgS base p q r.1 r.2 s = plF s (raw base r.2 r.1 (inR m r.1 r.2))) → mgN base p q l a s = plF s (raw base base.length a m)
  | [], a, s, m, _, _, _, hv, _ => by
    have hm : m = [] := by
      cases m with
      | nil => rfl
      | cons h m => obtain ⟨r, hr, -⟩ := hv h List.mem_cons_self; cases hr
    subst hm
    show plF s (base.drop a.toNat) = plF s ((base.take ((base.length : Int)).toNat).drop a.toNat)
    rw [Int.toNat_natCast, List.take_length]
  | r :: l, a, s, m, hr, hl, hc, hv, hS => by
    obtain ⟨h0, h1, h2, h3, h4⟩ := hr
    obtain ⟨m1, m2, rfl, e2, e3, e4⟩ := cov_split hl hc hv
    have hlo : ∀ r' ∈ l, r.2 < r'.1 := (List.pairwise_cons.1 hl).1
    have ec : ∀ (x y : List Hk) (e : Int), ch e (x ++ y) → ch e x ∧ ∀ k ∈ x, e < k.1 := by
      intro x
      induction x with
      | nil => exact fun y e _ => ⟨True.intro, fun k hk => (by cases hk)⟩
      | cons g x ih =>
        intro y e hz
        obtain ⟨i1, i2⟩ := ih y (hkEnd g) hz.2
        exact ⟨⟨hz.1, i1⟩, fun k hk => ch_all (p := g :: x) ⟨hz.1, i1⟩ k hk⟩
    obtain ⟨c1, -⟩ := ec m1 m2 _ hc
    have c1' : ch (r.1 - 1) m1 := by
      cases m1 with
      | nil => exact True.intro
      | cons g m1 => exact ⟨by have := e2 g List.mem_cons_self; omega, c1.2⟩
    have c2 : ∀ (x : List Hk) (e : Int), ch e (x ++ m2) → ch (r.2 - 1) m2 := by
      intro x
      induction x with
      | nil =>
        intro e hz
        cases m2 with
        | nil => exact True.intro
        | cons g m2 => exact ⟨by have := e3 g List.mem_cons_self; omega, hz.2⟩
      | cons g x ih => exact fun e hz => ih (hkEnd g) hz.2
    have i1 : inR (m1 ++ m2) r.1 r.2 = m1 := by
      rw [inR_app, inR_in e2, inR_out (fun x hx => by have := e3 x hx; have := hkEnd_ge x; omega), List.append_nil]
    have ih := mgN_plain (base := base) (p := p) (q := q) l r.2 (mgS base p q r.1 r.2 (plF s ((base.take r.1.toNat).drop a.toNat))) m2 h4 (List.pairwise_cons.1 hl).2 (c2 m1 _ hc) e4 (fun r' hr' s => by
      rw [hS r' (List.mem_cons_of_mem _ hr') s, inR_app, inR_out (p := m1) (fun x hx => by have := e2 x hx; have := hlo r' hr'; have := hkEnd_ge x; omega), List.nil_append])
    show mgN base p q l r.2 (mgS base p q r.1 r.2 (plF s ((base.take r.1.toNat).drop a.toNat))) = _
    rw [ih, hS r List.mem_cons_self, i1, plF_plF, plF_plF]
    congr 1
    rw [raw_front base base.length h0 h1 (by omega) (m1 ++ m2) (fun k hk => by
      rcases List.mem_append.1 hk with hk | hk
      · exact (e2 k hk).1
      · have := e3 k hk; omega), raw_split base base.length r.2 h3 m1 m2 r.1 (by omega) h2 c1' e2 (fun k hk => by have := e3 k hk; omega)]
/-! ### the regions of two patches -/
theorem mrgPC_low : ∀ (l : List Pr2) (c : Pr2), (∀ r ∈ l, c.1 ≤ r.1) → SrtP l → ∀ r ∈ mrgPC c l, c.1 ≤ r.1
  | [], c, _, _, r, hr => by rw [List.mem_singleton.1 hr]; exact Int.le_refl _
  | x :: l, c, h1, h2, r, hr => by
    have hl := List.pairwise_cons.1 h2
    have hx := h1 x List.mem_cons_self
    have hg : ∀ s ∈ l, x.1 ≤ s.1 := fun s hs => by have := hl.1 s hs; unfold leP at this; omega
    unfold mrgPC at hr
    split at hr
    · exact mrgPC_low l (c.1, max c.2 x.2) (fun s hs => h1 s (List.mem_cons_of_mem _ hs)) hl.2 r hr
    · rcases List.mem_cons.1 hr with rfl | hr
      · exact Int.le_refl _
      · have := mrgPC_low l x hg hl.2 r hr; omega
theorem mrgPC_apart : ∀ (l : List Pr2) (c : Pr2), c.1 ≤ c.2 → (∀ r ∈ l, c.1 ≤ r.1 ∧ r.1 ≤ r.2) → SrtP l → apartR (mrgPC c l)
  | [], c, _, _, _ => List.pairwise_singleton _ _
  | x :: l, c, h0, h1, h2 => by
    have hl := List.pairwise_cons.1 h2
    have hx := h1 x List.mem_cons_self
    have hg : ∀ s ∈ l, x.1 ≤ s.1 := fun s hs => by have := hl.1 s hs; unfold leP at this; omega
    unfold mrgPC
    split
    · exact mrgPC_apart l (c.1, max c.2 x.2) (by show c.1 ≤ max c.2 x.2; omega) (fun s hs => h1 s (List.mem_cons_of_mem _ hs)) hl.2
    · rename_i ht
      have ht : c.2 < x.1 := by
        unfold tchP at ht
        simp only [Bool.and_eq_true, decide_eq_true_eq, not_and] at ht
        omega
      refine List.Pairwise.cons (fun r hr => ?_) (mrgPC_apart l x hx.2 (fun s hs => ⟨hg s hs, (h1 s (List.mem_cons_of_mem _ hs)).2⟩) hl.2)
      have := mrgPC_low l x hg hl.2 r hr
      omega
theorem mrgPC_cov : ∀ (l : List Pr2) (c : Pr2), (∀ r ∈ l, c.1 ≤ r.1) → SrtP l → ∀ x ∈ c :: l, ∃ r ∈ mrgPC c l, r.1 ≤ x.1 ∧ x.2 ≤ r.2
  | [], c, _, _, x, hx => ⟨c, List.mem_singleton_self _, by rw [List.mem_singleton.1 hx]; exact ⟨Int.le_refl _, Int.le_refl _⟩⟩
  | y :: l, c, h1, h2, x, hx => by
    have hl := List.pairwise_cons.1 h2
    have hy := h1 y List.mem_cons_self
    have hg : ∀ s ∈ l, y.1 ≤ s.1 := fun s hs => by have := hl.1 s hs; unfold leP at this; omega
    unfold mrgPC
    split
    · have ih := mrgPC_cov l (c.1, max c.2 y.2) (fun s hs => h1 s (List.mem_cons_of_mem _ hs)) hl.2
      have big : x.2 ≤ max c.2 y.2 ∧ c.1 ≤ x.1 ∨ x ∈ l := by
        rcases List.mem_cons.1 hx with rfl | hx
        · exact .inl ⟨by omega, Int.le_refl _⟩
        · rcases List.mem_cons.1 hx with rfl | hx
          · exact .inl ⟨by omega, hy⟩
          · exact .inr hx
      rcases big with ⟨b1, b2⟩ | b
      · obtain ⟨r, g1, g2, g3⟩ := ih (c.1, max c.2 y.2) List.mem_cons_self
        dsimp only at g2 g3
        exact ⟨r, g1, by omega, by omega⟩
      · exact ih x (List.mem_cons_of_mem _ b)
    · rcases List.mem_cons.1 hx with rfl | hx
      · exact ⟨x, List.mem_cons_self, Int.le_refl _, Int.le_refl _⟩
      · obtain ⟨r, g1, g2⟩ := mrgPC_cov l y hg hl.2 x hx
        exact ⟨r, List.mem_cons_of_mem _ g1, g2⟩
theorem rgP_apart (p q : List Hk) : apartR (rgP p q) ∧ cover p (rgP p q) ∧ cover q (rgP p q) := by
  have hs := srtP_srt ((oldR p ++ oldR q).map prj)
  have hm := srtP_perm ((oldR p ++ oldR q).map prj)
  have hall : ∀ r ∈ srtP ((oldR p ++ oldR q).map prj), r.1 ≤ r.2 := by
    intro r hr
    obtain ⟨s, hs, rfl⟩ := List.mem_map.1 (hm.mem_iff.1 hr)
    rcases List.mem_append.1 hs with hs | hs
    · obtain ⟨h, -, rfl⟩ := List.mem_map.1 hs; exact hkEnd_ge h
    · obtain ⟨h, -, rfl⟩ := List.mem_map.1 hs; exact hkEnd_ge h
  have hin : ∀ h, h ∈ p ∨ h ∈ q → (h.1, hkEnd h) ∈ srtP ((oldR p ++ oldR q).map prj) := by
    intro h hh
    refine hm.mem_iff.2 (List.mem_map.2 ⟨rgOld h, ?_, rfl⟩)
    rcases hh with hh | hh
    · exact List.mem_append.2 (.inl (List.mem_map.2 ⟨h, hh, rfl⟩))
    · exact List.mem_append.2 (.inr (List.mem_map.2 ⟨h, hh, rfl⟩))
  unfold rgP
  generalize srtP ((oldR p ++ oldR q).map prj) = L at hs hall hin
  cases L with
  | nil => exact ⟨List.Pairwise.nil, fun h hh => (by cases hin h (.inl hh)), fun h hh => (by cases hin h (.inr hh))⟩
  | cons c l =>
    have hl := List.pairwise_cons.1 hs
    have hg : ∀ s ∈ l, c.1 ≤ s.1 := fun s hs => by have := hl.1 s hs; unfold leP at this; omega
    refine ⟨mrgPC_apart l c (hall c List.mem_cons_self) (fun r hr => ⟨hg r hr, hall r (List.mem_cons_of_mem _ hr)⟩) hl.2, fun h hh => ?_, fun h hh => ?_⟩
    · exact mrgPC_cov l c hg hl.2 _ (hin h (.inl hh))
    · exact mrgPC_cov l c hg hl.2 _ (hin h (.inr hh))
/-- the merge of a text without conflicts -/
def oneC (t : List ByteArray) : List Ch := flushM (plF ([], none) t)
theorem mgL_plain {base : List ByteArray} {p q m : List Hk} (hp : ∀ h ∈ p, 0 ≤ h.1 ∧ hkEnd h ≤ base.length) (hq : ∀ h ∈ q, 0 ≤ h.1 ∧ hkEnd h ≤ base.length) (hc : ch (-1) m) (hm : ∀ h ∈ m, h ∈ p ∨ h ∈ q)
    (hS : ∀ r ∈ rgP p q, ∀ s, mgS base p q r.1 r.2 s = plF s (raw base r.2 r.1 (inR m r.1 r.2))) : mgL base p q = oneC (raw base base.length 0 m) := by
  obtain ⟨a1, a2, a3⟩ := rgP_apart p q
  unfold mgL oneC
  rw [mgN_plain (rgP p q) 0 ([], none) m (rgP_ok (by omega) hp hq) a1 hc (fun h hh => (hm h hh).elim (a2 h) (a3 h)) hS]
theorem oneC_clean {t : List ByteArray} (h : vC t = 0) : clF (oneC t) = (0, 0) ∧ clOk (oneC t) = true ∧ clL (oneC t) = t := by
  have hl := vC_len t h
  unfold oneC plF
  split
  · rename_i e
    rw [List.eq_nil_of_length_eq_zero e]
    exact ⟨rfl, rfl, rfl⟩
  · rename_i e
    show clF [plCh t] = _ ∧ clOk [plCh t] = _ ∧ clL [plCh t] = _
    have v0 : vC [] = 0 := rfl
    have c0 : chC (plCh t) = 0 := chC_good.2 ⟨h, v0, v0, v0, by
      rintro (⟨z, -⟩ | ⟨-, z | z⟩)
      · cases z
      · exact e z
      · exact absurd (show 0 < 0 from z) (by decide)⟩
    have k0 : ckC [plCh t] = 0 := by
      refine ckC_all.2 ⟨by rw [List.length_singleton]; decide, fun c hc => ?_⟩
      rw [List.mem_singleton.1 hc]; exact c0
    have n0 : nCf [plCh t] = 0 := rfl
    have r0 : rsN [plCh t] [] = t := by show t ++ [] = t; rw [List.append_nil]
    have ok : clOk [plCh t] = true := by unfold clOk; rw [decide_eq_true k0, decide_eq_true n0, r0, decide_eq_true hl]; rfl
    refine ⟨?_, ok, ?_⟩
    · unfold clF; rw [if_neg (fun z => z k0), if_neg (fun z => z n0), r0, if_neg (by omega)]
    · unfold clL; rw [if_pos ok, r0]
/-! ### one side alone; both alike -/
theorem pCost_good : ∀ {p : List Hk}, (∀ h ∈ p, 0 < h.2.1.length + h.2.2.length) → 0 ≤ pCost p ∧ (pCost p = 0 → p = [])
  | [], _ => ⟨Int.le_refl _, fun _ => rfl⟩
  | h :: p, hh => by
    obtain ⟨i1, i2⟩ := pCost_good fun k hk => hh k (List.mem_cons_of_mem _ hk)
    have := hh h List.mem_cons_self
    unfold pCost
    exact ⟨by omega, fun z => by omega⟩
theorem script_self {a : List ByteArray} (ha : vC a = 0) : script a a = [] := by
  have hg := (pC_iff.1 (script_good ha ha)).2.2
  refine (pCost_good fun h hh => (hg h hh).2.2.2.2.1).2 ?_
  rw [script_cost, lcs_self]
  omega
theorem script_at {a b : List ByteArray} (ha : vC a = 0) (hb : vC b = 0) : ch (-1) (script a b) ∧ (∀ h ∈ script a b, 0 ≤ h.1 ∧ hkEnd h ≤ a.length) ∧ raw a a.length 0 (script a b) = b := by
  obtain ⟨-, -, hp, hi⟩ := script_inL ha hb
  refine ⟨phC_ch _ _ hp, hi, ?_⟩
  exact (ap_to a (script a b) 0 b (Int.le_refl _) (by omega) (by simpa using script_ap a b)).2
theorem one_left {b l : List ByteArray} (hb : vC b = 0) (hl : vC l = 0) : mgV b l b = oneC l := by
  obtain ⟨h1, h2, h3⟩ := script_at hb hl
  unfold mgV
  rw [if_pos (mgC_good.2 ⟨hb, hl, hb⟩), script_self hb, mgL_plain h2 (fun h hh => by cases hh) h1 (fun h hh => .inl hh) (fun r _ s => ?_), h3]
  unfold mgS
  exact if_pos (.inl rfl)
theorem one_right {b r : List ByteArray} (hb : vC b = 0) (hr : vC r = 0) : mgV b b r = oneC r := by
  obtain ⟨h1, h2, h3⟩ := script_at hb hr
  unfold mgV
  rw [if_pos (mgC_good.2 ⟨hb, hb, hr⟩), script_self hb, mgL_plain (fun h hh => by cases hh) h2 h1 (fun h hh => .inr hh) (fun x _ s => ?_), h3]
  unfold mgS
  by_cases e : (inR (script b r) x.1 x.2).length = 0
  · rw [if_pos (.inl e), List.eq_nil_of_length_eq_zero e]; rfl
  · by_cases e2 : raw b x.2 x.1 (inR [] x.1 x.2) = raw b x.2 x.1 (inR (script b r) x.1 x.2)
    · rw [if_pos (.inr e2), e2]
    · rw [if_neg (fun z => z.elim e e2)]
      exact if_pos rfl
theorem one_both {b l : List ByteArray} (hb : vC b = 0) (hl : vC l = 0) : mgV b l l = oneC l := by
  obtain ⟨h1, h2, h3⟩ := script_at hb hl
  unfold mgV
  rw [if_pos (mgC_good.2 ⟨hb, hl, hl⟩), mgL_plain h2 h2 h1 (fun h hh => .inl hh) (fun r _ s => ?_), h3]
  unfold mgS
  exact if_pos (.inr rfl)
/-! ### patches that can be moved behind each other -/
theorem mrgPC_self : ∀ (l : List Pr2) (c : Pr2), (c :: l).Pairwise (fun a b => tchP a b = false) → mrgPC c l = c :: l
  | [], c, _ => rfl
  | r :: l, c, h => by
    have hl := List.pairwise_cons.1 h
    unfold mrgPC
    rw [if_neg (by rw [hl.1 r List.mem_cons_self]; decide), mrgPC_self l r hl.2]
theorem tchP_comm (a b : Pr2) : tchP a b = tchP b a := by unfold tchP; rw [Bool.and_comm]
theorem old_apart : ∀ {p : List Hk} {e : Int}, ch e p → ((oldR p).map prj).Pairwise fun a b => tchP a b = false
  | [], _, _ => List.Pairwise.nil
  | h :: p, e, hc => by
    refine List.Pairwise.cons (fun r hr => ?_) (old_apart hc.2)
    obtain ⟨s, hs, rfl⟩ := List.mem_map.1 hr
    have := (oldR_low hc.2 s hs).1
    show (decide (s.1 ≤ hkEnd h) && _) = false
    rw [decide_eq_false (by omega), Bool.false_and]
theorem rg_of_meet {p q : List Hk} (hp : ch (-1) p) (hq : ch (-1) q) (hm : meet (oldR p) (oldR q) = false) : ∀ r ∈ rgP p q, ∃ h, (h ∈ p ∨ h ∈ q) ∧ r = (h.1, hkEnd h) := by
  have hpw : ((oldR p ++ oldR q).map prj).Pairwise fun a b => tchP a b = false := by
    rw [List.map_append, List.pairwise_append]
    refine ⟨old_apart hp, old_apart hq, fun a ha b hb => ?_⟩
    obtain ⟨x, hx, rfl⟩ := List.mem_map.1 ha
    obtain ⟨y, hy, rfl⟩ := List.mem_map.1 hb
    rw [tchP_prj]
    exact meet_iff.1 hm x hx y hy
  have hperm := srtP_perm ((oldR p ++ oldR q).map prj)
  have hsw : (srtP ((oldR p ++ oldR q).map prj)).Pairwise fun a b => tchP a b = false := (hperm.pairwise_iff (fun {x y} h => by rw [tchP_comm]; exact h)).2 hpw
  have e : rgP p q = srtP ((oldR p ++ oldR q).map prj) := by
    unfold rgP
    generalize srtP ((oldR p ++ oldR q).map prj) = L at hsw
    cases L with
    | nil => rfl
    | cons c l => exact mrgPC_self l c hsw
  rw [e]
  intro r hr
  obtain ⟨s, hs, rfl⟩ := List.mem_map.1 (hperm.mem_iff.1 hr)
  rcases List.mem_append.1 hs with hs | hs
  · obtain ⟨h, hh, rfl⟩ := List.mem_map.1 hs
    exact ⟨h, .inl hh, rfl⟩
  · obtain ⟨h, hh, rfl⟩ := List.mem_map.1 hs
    exact ⟨h, .inr hh, rfl⟩
theorem un_mem : ∀ (M : Mxl), ∀ h ∈ un M, h ∈ pj true M ∨ h ∈ pj false M
  | (true, k) :: M, h, hh => by
    rcases List.mem_cons.1 hh with rfl | hh
    · exact .inl List.mem_cons_self
    · exact (un_mem M h hh).imp (List.mem_cons_of_mem _) id
  | (false, k) :: M, h, hh => by
    rcases List.mem_cons.1 hh with rfl | hh
    · exact .inr List.mem_cons_self
    · exact (un_mem M h hh).imp id (List.mem_cons_of_mem _)
theorem sep_un : ∀ (M : Mxl) (e : Int), sep e M → ch e (un M)
  | [], _, _ => True.intro
  | _ :: M, _, h => ⟨h.1, sep_un M _ h.2⟩
theorem inR_un (lo hi : Int) : ∀ (M : Mxl), (inR (pj false M) lo hi = [] → inR (un M) lo hi = inR (pj true M) lo hi) ∧ (inR (pj true M) lo hi = [] → inR (un M) lo hi = inR (pj false M) lo hi)
  | [] => ⟨fun _ => rfl, fun _ => rfl⟩
  | (true, k) :: M => by
    obtain ⟨i1, i2⟩ := inR_un lo hi M
    show (inR (pj false M) lo hi = [] → inR (k :: un M) lo hi = inR (k :: pj true M) lo hi) ∧ (inR (k :: pj true M) lo hi = [] → inR (k :: un M) lo hi = inR (pj false M) lo hi)
    unfold inR at i1 i2 ⊢
    rw [List.filter_cons, List.filter_cons]
    split
    · exact ⟨fun z => by rw [i1 z], fun z => by cases z⟩
    · exact ⟨i1, i2⟩
  | (false, k) :: M => by
    obtain ⟨i1, i2⟩ := inR_un lo hi M
    show (inR (k :: pj false M) lo hi = [] → inR (k :: un M) lo hi = inR (pj true M) lo hi) ∧ (inR (pj true M) lo hi = [] → inR (k :: un M) lo hi = inR (k :: pj false M) lo hi)
    unfold inR at i1 i2 ⊢
    rw [List.filter_cons, List.filter_cons]
    split
    · exact ⟨fun z => (by cases z), fun z => by rw [i2 z]⟩
    · exact ⟨i1, i2⟩
/-- the merge of changes that can be moved behind each other -/
theorem commutes_law {b l r : List ByteArray} (hb : vC b = 0) (hl : vC l = 0) (hr : vC r = 0) (hok : rbOk (script b r) (script b l) = true) :
    mgC b l r = 0 ∧ ((apF (rbP (script b r) (script b l)) l).1 = 10 ∨ ((apF (rbP (script b r) (script b l)) l).1 = 0 ∧ mgV b l r = oneC (apL (rbP (script b r) (script b l)) l) ∧ vC (apL (rbP (script b r) (script b l)) l) = 0)) := by
  have hC := mgC_good.2 ⟨hb, hl, hr⟩
  refine ⟨hC, ?_⟩
  obtain ⟨p1, p2, p3⟩ := script_at hb hl
  obtain ⟨q1, q2, q3⟩ := script_at hb hr
  obtain ⟨M, m1, m2, m3, m4⟩ := rb_mix hok
  obtain ⟨k1, k2, k3, k4⟩ := rbOk_iff.1 hok
  obtain ⟨w, hw⟩ := ap_both M 0 b r l m1 (by rw [m2]; exact script_ap b r) (by rw [m3]; exact script_ap b l)
  have hw2 := hw
  rw [← un_sw] at hw2
  obtain ⟨s, j1, j2⟩ := ap_mix (sw M) 0 0 b w hw2
  rw [pj_sw] at j1
  rw [sh_sw] at j2
  simp only [Bool.not_true, Bool.not_false] at j1 j2
  rw [m3] at j1
  rw [m4] at j2
  obtain rfl := j1.det (script_ap b l)
  have hmv : mgV b s r = oneC w := by
    have hu : ch (-1) (un M) := sep_un M _ m1
    have hun : ∀ h ∈ un M, h ∈ script b s ∨ h ∈ script b r := fun h hh => by
      rcases un_mem M h hh with z | z
      · rw [m2] at z; exact .inr z
      · rw [m3] at z; exact .inl z
    unfold mgV
    rw [if_pos hC, mgL_plain p2 q2 hu hun (fun x hx s' => ?_)]
    · congr 1
      exact (ap_to b (un M) 0 w (Int.le_refl _) (by omega) (by simpa using hw)).2
    · obtain ⟨h, hh, rfl⟩ := rg_of_meet p1 q1 (by rw [meet_comm]; exact k3) x hx
      have nt : ∀ x ∈ script b r, ∀ y ∈ script b s, hkEnd x < y.1 ∨ hkEnd y < x.1 := fun x hx y hy => by
        have := meet_iff.1 k3 (rgOld x) (List.mem_map.2 ⟨x, hx, rfl⟩) (rgOld y) (List.mem_map.2 ⟨y, hy, rfl⟩)
        unfold touch rgOld at this
        simp only [Bool.and_eq_false_iff, decide_eq_false_iff_not] at this
        omega
      have hge := hkEnd_ge h
      have iu := inR_un h.1 (hkEnd h) M
      rw [m2, m3] at iu
      unfold mgS
      dsimp only
      rcases hh with hh | hh
      · have e : inR (script b r) h.1 (hkEnd h) = [] := inR_out fun y hy => by have := nt y hy h hh; have := hkEnd_ge y; omega
        rw [if_pos (.inl (by rw [e]; rfl)), iu.2 e]
      · have e : inR (script b s) h.1 (hkEnd h) = [] := inR_out fun y hy => by have := nt h hh y hy; have := hkEnd_ge y; omega
        rw [iu.1 e]
        split
        · rename_i z
          rcases z with z | z
          · rw [List.eq_nil_of_length_eq_zero z, e]
          · rw [z]
        · rw [if_pos (by rw [e]; rfl)]
  have ha := apply_ap (p := rbP (script b r) (script b s)) (t := s) (s := w) (by rw [show rbP (script b r) (script b s) = rbR (script b r) (script b s) from if_pos hok]; exact k4) hl (by simpa using j2)
  by_cases hwl : w.length ≤ 120
  · rw [if_pos hwl] at ha
    have h0 : (apF (rbP (script b r) (script b s)) s).1 = 0 := by rw [ha.1]
    obtain ⟨-, -, -, -, hv⟩ := ap_apply h0
    exact .inr ⟨h0, by rw [ha.2]; exact hmv, hv⟩
  · rw [if_neg hwl] at ha
    exact .inl (by rw [ha.1])
end Go.Proofs.Ytppmhjaooiameaa
