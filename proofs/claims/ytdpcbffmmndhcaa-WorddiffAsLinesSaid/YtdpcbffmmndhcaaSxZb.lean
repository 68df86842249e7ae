/- Sx, part Zb: weaker states by other names and by packing; results that are frozen at a function's end. -/
import Derived.Test.YtdpcbffmmndhcaaSxZa
namespace Go.Proofs.Ytdpcbffmmndhcaa
open Go.RowKit

/-! ### other names -/
def Lf.ren (f : Nat → Nat) : Lf → Lf
  | .p b off => .p (f b) off
  | .o b => .o (f b)
  | .pe b i s k => .pe (f b) i s k
  | .px b i s k => .px (f b) i s k
  | .fn g c => .fn g (c.map f)
  | x => x
def AV.ren (f : Nat → Nat) : AV → AV
  | .v a ls => .v a (ls.map (Lf.ren f))
  | .tu es => .tu (es.map fun e => (e.1, e.2.map (Lf.ren f)))
  | .un => .un
def Ob.ren (f : Nat → Nat) : Ob → Ob
  | .box T cs => .box T (cs.map (Lf.ren f))
  | .arr E n cs => .arr E n (cs.map (Lf.ren f))
  | .row E t l => .row E t l
  | .rox E t l1 cs l2 => .rox E t l1 (cs.map (Lf.ren f)) l2

theorem unren_lf {w : World} {G G' : Gh} {A : Nat → Prop} {f : Nat → Nat} {x : Lf} {v : Value} (hn : ∀ b, G'.r b = G.r (f b)) (h : (x.ren f).rel w G A v) : x.rel w G' A v := by
  cases x with
  | p b off => obtain ⟨g, h1, h2⟩ := h; exact ⟨g, (hn b).trans h1, h2⟩
  | o b => exact ⟨h.1.trans (hn b).symm, h.2⟩
  | pe b i s k => obtain ⟨g, h1, h2⟩ := h; exact ⟨g, by rw [hn b]; exact h1, h2⟩
  | px b i s k => obtain ⟨g, h1, h2⟩ := h; exact ⟨g, by rw [hn b]; exact h1, h2⟩
  | fn g c =>
    obtain ⟨gs, h1, h2, h3⟩ := h
    rw [List.length_map] at h2
    refine ⟨gs, h1, h2, fun i hi hi' => ?_⟩
    have := h3 i (by rw [List.length_map]; exact hi) hi'
    rw [List.getElem_map] at this
    exact (hn _).trans this
  | _ => exact h
theorem unren_ls {w : World} {G G' : Gh} {A : Nat → Prop} {f : Nat → Nat} (hn : ∀ b, G'.r b = G.r (f b)) : ∀ {xs : List Lf} {vs : List Value}, relL w G A (xs.map (Lf.ren f)) vs → relL w G' A xs vs
  | [], _, h => h
  | x :: xs, vs, h => by
    obtain ⟨v, r, h1, h2, h3⟩ := h
    exact ⟨v, r, h1, unren_lf hn h2, unren_ls hn h3⟩
theorem unren_es {w : World} {G G' : Gh} {A : Nat → Prop} {f : Nat → Nat} (hn : ∀ b, G'.r b = G.r (f b)) : ∀ {xs : List (Bool × List Lf)} {vs : List Value}, relT w G A (xs.map fun e => (e.1, e.2.map (Lf.ren f))) vs → relT w G' A xs vs
  | [], _, h => h
  | x :: xs, vs, h => by
    obtain ⟨v, r, h1, ⟨us, k1, k2, k3⟩, h3⟩ := h
    exact ⟨v, r, h1, ⟨us, unren_ls hn k1, k2, k3⟩, unren_es hn h3⟩
theorem unren_av {w : World} {G G' : Gh} {A : Nat → Prop} {f : Nat → Nat} {x : AV} {v : Value} (hn : ∀ b, G'.r b = G.r (f b)) (h : (x.ren f).rel w G A v) : x.rel w G' A v := by
  cases x with
  | v a ls => obtain ⟨us, k1, k2, k3⟩ := h; exact ⟨us, unren_ls hn k1, k2, k3⟩
  | tu es => obtain ⟨vs, h1, h2⟩ := h; exact ⟨vs, h1, unren_es hn h2⟩
  | un => trivial
theorem unren_sat {w : World} {G G' : Gh} {A : Nat → Prop} {f : Nat → Nat} {b : Nat} {ob : Ob} (hn : ∀ b, G'.r b = G.r (f b)) (hf : ∀ k, G'.f b k ↔ G.f (f b) k) (h : Sat w G A (f b) (ob.ren f)) : Sat w G' A b ob := by
  cases ob with
  | box T cs =>
    obtain ⟨g, vs, h1, h2, h3, h4⟩ := h
    exact ⟨g, vs, (hn b).trans h1, h2, unren_ls hn h3, fun k => (hf k).trans (h4 k)⟩
  | arr E n cs =>
    obtain ⟨g, vs, h1, h0, h2, h3, h4⟩ := h
    exact ⟨g, vs, (hn b).trans h1, h0, h2, unren_ls hn h3, fun k => (hf k).trans (h4 k)⟩
  | row E t l =>
    obtain ⟨vs, h1, h2, h3⟩ := h
    exact ⟨vs, h1, by rw [hn b]; exact h2, fun k => by rw [hn b]; exact (hf k).trans (h3 k)⟩
  | rox E t l1 cs l2 =>
    obtain ⟨v1, c, v2, h1, h2, h3, h4, h5, h6⟩ := h
    exact ⟨v1, c, v2, h1, unren_ls hn h2, h3, h4, by rw [hn b]; exact h5, fun k => by rw [hn b]; exact (hf k).trans (h6 k)⟩

/-- the old name of a name -/
def bk : List (Nat × Nat) → Nat → Nat
  | [], c => c
  | (a, b) :: r, c => bif Nat.beq c a then b else bk r c
def keepSR (f : Nat → AV) (ρ : List (Nat × Nat)) : List SEnt → Prop
  | [] => True
  | .put t x :: r => f t = x.ren (bk ρ) ∧ keepSR f ρ r
  | .scr _ :: _ => False
  | .mark :: r => keepSR (fun k => f (k + SUS)) ρ r
def keepHR (f : Nat → Option Ob) (ρ : List (Nat × Nat)) : List HEnt → Prop
  | [] => True
  | .put b ob :: r => f (bk ρ b) = some (ob.ren (bk ρ)) ∧ keepHR f ρ r
  | .scr _ _ :: _ => False
def hkeys : List HEnt → List Nat
  | [] => []
  | .put b _ :: r => b :: hkeys r
  | .scr _ _ :: r => hkeys r
def ndup : List Nat → Bool
  | [] => true
  | x :: xs => !inL xs x && ndup xs
theorem keepSR_look {f : Nat → AV} {ρ : List (Nat × Nat)} : ∀ {sl : List SEnt}, keepSR f ρ sl → ∀ t, f t = (look sl t).ren (bk ρ) ∨ look sl t = .un
  | [], _, t => .inr rfl
  | .put t x :: r, h, k => by
    show f k = (bif Nat.beq k t then x else look r k).ren (bk ρ) ∨ (bif Nat.beq k t then x else look r k) = .un
    by_cases hk : k = t
    · subst hk; rw [beq_self]; exact .inl h.1
    · rw [beq_ne hk]; exact keepSR_look h.2 k
  | .scr d :: r, h, k => h.elim
  | .mark :: r, h, k => by
    rw [look_mark]
    by_cases hk : k < SUS
    · rw [if_pos hk]; exact .inr rfl
    · rw [if_neg hk]
      have := keepSR_look (f := fun k => f (k + SUS)) h (k - SUS)
      simp only [show k - SUS + SUS = k by omega] at this
      exact this
theorem keepHR_get {f : Nat → Option Ob} {ρ : List (Nat × Nat)} : ∀ {hl : List HEnt}, keepHR f ρ hl → ∀ b ob, hget hl b = some ob → f (bk ρ b) = some (ob.ren (bk ρ)) ∧ b ∈ hkeys hl
  | [], _, b, ob, h => by cases h
  | .put b' ob' :: r, hk, b, ob, h => by
    unfold hget at h
    by_cases hb : b = b'
    · subst hb; rw [beq_self] at h; cases h; exact ⟨hk.1, by simp [hkeys]⟩
    · rw [beq_ne hb] at h
      obtain ⟨k1, k2⟩ := keepHR_get hk.2 b ob h
      exact ⟨k1, by simp [hkeys, k2]⟩
  | .scr _ _ :: _, hk, _, _, _ => hk.elim
theorem ndup_inj {ρ : List (Nat × Nat)} : ∀ {l : List Nat}, ndup (l.map (bk ρ)) = true → ∀ a ∈ l, ∀ b ∈ l, bk ρ a = bk ρ b → a = b
  | [], _, a, ha, _, _, _ => by cases ha
  | x :: xs, h, a, ha, b, hb, e => by
    rw [List.map_cons] at h
    obtain ⟨h1, h2⟩ := Bool.and_eq_true_iff.1 h
    have h1 : inL (xs.map (bk ρ)) (bk ρ x) = false := by simpa using h1
    rw [inL_false] at h1
    rcases List.mem_cons.1 ha with rfl | ha
    · rcases List.mem_cons.1 hb with rfl | hb
      · rfl
      · exact absurd (List.mem_map.2 ⟨b, hb, e.symm⟩) h1
    · rcases List.mem_cons.1 hb with hbx | hb
      · subst hbx; exact absurd (show bk ρ b ∈ xs.map (bk ρ) from List.mem_map.2 ⟨a, by assumption, e⟩) h1
      · exact ndup_inj h2 a ha b hb e

theorem Wk.ren {n : Nat} {sl sl' : List SEnt} {hl hl' : List HEnt} (ρ : List (Nat × Nat)) (hd : ndup ((hkeys hl').map (bk ρ)) = true) (h1 : keepSR (look sl) ρ sl') (h2 : keepHR (hget hl) ρ hl') : Wk n sl hl sl' hl' := by
  intro F G a w h
  let G' : Gh := ⟨fun c => G.r (bk ρ c), fun c k => G.f (bk ρ c) k⟩
  have hk := keepHR_get h2
  have hfoot : ∀ k, Foot (hget hl') G' k → Foot (hget hl) G k := by
    rintro k ⟨c, oc, q1, q2⟩
    exact ⟨bk ρ c, _, (hk c oc q1).1, q2⟩
  have hx : Ext (Foot (hget hl) G) (Okay F (hget hl) G) G w (Okay F (hget hl') G') G w [] := ⟨Only.refl _ _, fun k _ ⟨q1, q2⟩ => ⟨q1, fun q3 => q2 (hfoot k q3)⟩, Okay.apart, fun _ _ => rfl⟩
  refine ⟨G', h.df, h.sz, h.lm, fun t => ?_, ⟨fun c oc hc => ?_, fun c1 c2 o1 o2 hne q1 q2 k => ?_, fun c oc hc k hk' => ?_, h.hp.fr, h.hp.zs⟩⟩
  · rcases keepSR_look h1 t with e | e
    · have := hx.av (fun _ _ => by simp) (h.sl t)
      rw [e] at this
      exact unren_av (f := bk ρ) (fun _ => rfl) this
    · rw [e]; trivial
  · obtain ⟨q1, q2⟩ := hk c oc hc
    exact unren_sat (f := bk ρ) (fun _ => rfl) (fun _ => Iff.rfl) ((h.hp.sat _ _ q1).ext hx (by simp) (by simp) (fun _ _ => rfl) (fun _ => Iff.rfl))
  · obtain ⟨a1, a2⟩ := hk c1 o1 q1
    obtain ⟨b1, b2⟩ := hk c2 o2 q2
    exact h.hp.dj _ _ _ _ (fun e => hne (ndup_inj hd _ a2 _ b2 e)) a1 b1 k
  · exact h.hp.bd _ _ (hk c oc hc).1 k hk'

/-! ### packing -/
theorem asList_rd {F : Fr} {hp : Nat → Option Ob} {G : Gh} {w : World} {A' : Nat → Prop} {e : Ty} {x : Lf} {l : List e.den} {v : Value} (he : asList hp e x = some l) (h : RepH F hp G w) (hx : x.rel w G (Okay F hp G) v)
    (hA : ∀ k, Okay F hp G k → A' k) (hn : ∀ b ∈ x.names, ∀ ob, hp b = some ob → (∃ E t l, ob = .row E t l) ∨ (∃ E n cs, ob = .arr E n cs) → ∀ k, G.f b k → A' k) : (Ty.slice e).rd w A' l [v] := by
  have mono : ∀ {t : Ty} {l : List t.den} {vs : List Value}, rdL w (Okay F hp G) t l vs → rdL w A' t l vs := fun hh => rdL_mono (Nat.le_refl _) (fun b hb _ => ⟨hA b hb, rfl⟩) hh
  cases x with
  | nl =>
    cases he
    obtain rfl := (show v = _ from hx)
    exact ⟨none, 0, rfl, Nat.le_refl _, Nat.zero_le _, fun _ => rfl, fun i hi => by simp at hi⟩
  | d u y =>
    unfold asList at he
    dsimp only at he
    split at he
    · rename_i hu
      subst hu
      cases he
      exact Ty.rd_mono (Nat.le_refl _) (fun b hb _ => ⟨hA b hb, rfl⟩) (.slice e) _ _ hx
    · cases he
  | o b =>
    have hob : ∃ E, rowE hp (.o b) E = true ∧ ownOf hp e 0 (.o b) = some (b, l) ∧ ∃ ob, hp b = some ob ∧ ((∃ E t l, ob = .row E t l) ∨ (∃ E n cs, ob = .arr E n cs)) := by
      unfold asList at he
      dsimp only at he
      split at he
      · rename_i E u l' hb
        split at he
        · rename_i hu
          cases he
          refine ⟨E, by simp only [rowE, hb]; exact Nat.beq_refl E, ?_, _, hb, .inl ⟨_, _, _, rfl⟩⟩
          simp only [ownOf, hb]
          rw [dif_pos hu]
        · cases he
      · rename_i E n cs hb
        refine ⟨E, by simp only [rowE, hb]; exact Nat.beq_refl E, ?_, _, hb, .inr ⟨_, _, _, rfl⟩⟩
        simp only [ownOf, hb, he]
        rfl
      · cases he
    obtain ⟨E, h1, h2, ob, h3, h4⟩ := hob
    obtain ⟨vs, k1, k2, k3⟩ := ownOf_owns h2 h1 h hx
    refine reads_rdB (mono k1) k2 fun k hk => ?_
    obtain ⟨o0, q1, q2⟩ := k3 k hk
    exact hn b (by simp [Lf.names]) ob h3 h4 k q2
  | _ => cases he

/-- cells as data, the rows that they name frozen -/
def packH (hp : Nat → Option Ob) : (t : Ty) → List Lf → Option (t.den × List Lf)
  | .pair a b, ls => match packH hp a ls with
    | some (x, r) => match packH hp b r with
      | some (y, r') => some ((x, y), r')
      | none => none
    | none => none
  | .st a, ls => packH hp a ls
  | .int k, l :: r => (lfTo (.int k) l).map (·, r)
  | .bool, l :: r => (lfTo .bool l).map (·, r)
  | .str, l :: r => (lfTo .str l).map (·, r)
  | .slice e, l :: r => (asList hp e l).map (·, r)
  | _, [] => none
theorem packH_rd {F : Fr} {hp : Nat → Option Ob} {G : Gh} {w : World} {A' : Nat → Prop} (h : RepH F hp G w) (hA : ∀ k, Okay F hp G k → A' k) : ∀ (t : Ty) (ls : List Lf) (x : t.den) (r : List Lf) (vs : List Value), packH hp t ls = some (x, r) →
    (∀ b ∈ ls.flatMap Lf.names, ∀ ob, hp b = some ob → (∃ E t l, ob = .row E t l) ∨ (∃ E n cs, ob = .arr E n cs) → ∀ k, G.f b k → A' k) → relL w G (Okay F hp G) ls vs → ∃ c q, vs = c ++ q ∧ t.rd w A' x c ∧ relL w G (Okay F hp G) r q ∧ ∀ b ∈ r.flatMap Lf.names, b ∈ ls.flatMap Lf.names
  | .pair a b, ls, x, r, vs, e, hn, hr => by
    unfold packH at e
    split at e
    · rename_i x1 r1 e1
      split at e
      · rename_i y1 r2 e2
        cases e
        obtain ⟨c1, q1, rfl, k1, k2, k3⟩ := packH_rd h hA a ls x1 r1 vs e1 hn hr
        obtain ⟨c2, q2, rfl, m1, m2, m3⟩ := packH_rd h hA b r1 y1 r q1 e2 (fun b hb => hn b (k3 b hb)) k2
        exact ⟨c1 ++ c2, q2, by simp, ⟨c1, c2, rfl, k1, m1⟩, m2, fun b hb => k3 b (m3 b hb)⟩
      · cases e
    · cases e
  | .st a, ls, x, r, vs, e, hn, hr => packH_rd h hA a ls x r vs e hn hr
  | .slice k, l :: r', x, r, vs, e, hn, hr => by
    obtain ⟨v, q, rfl, h1, h2⟩ := hr
    have e : (asList hp k l).map (·, r') = some (x, r) := e
    rw [Option.map_eq_some_iff] at e
    obtain ⟨y, e1, e2⟩ := e
    cases e2
    exact ⟨[v], q, rfl, asList_rd e1 h h1 hA (fun b hb => hn b (by simp only [List.flatMap_cons, List.mem_append]; exact .inl hb)), h2, fun b hb => by simp only [List.flatMap_cons, List.mem_append]; exact .inr hb⟩
  | .int k, l :: r', x, r, vs, e, hn, hr => packH_leaf (t := .int k) hA e hr
  | .bool, l :: r', x, r, vs, e, hn, hr => packH_leaf (t := .bool) hA e hr
  | .str, l :: r', x, r, vs, e, hn, hr => packH_leaf (t := .str) hA e hr
where
  packH_leaf {F : Fr} {hp : Nat → Option Ob} {G : Gh} {w : World} {A' : Nat → Prop} {t : Ty} {l : Lf} {r r' : List Lf} {x : t.den} {vs : List Value} (hA : ∀ k, Okay F hp G k → A' k) (e : (lfTo t l).map (·, r) = some (x, r')) (h : relL w G (Okay F hp G) (l :: r) vs) :
      ∃ c q, vs = c ++ q ∧ t.rd w A' x c ∧ relL w G (Okay F hp G) r' q ∧ ∀ b ∈ r'.flatMap Lf.names, b ∈ (l :: r).flatMap Lf.names := by
    obtain ⟨v, q, rfl, h1, h2⟩ := h
    rw [Option.map_eq_some_iff] at e
    obtain ⟨y, e1, e2⟩ := e
    cases e2
    exact ⟨[v], q, rfl, Ty.rd_mono (Nat.le_refl _) (fun b hb _ => ⟨hA b hb, rfl⟩) t _ _ (lfTo_rd e1 h1), h2, fun b hb => by simp only [List.flatMap_cons, List.mem_append]; exact .inr hb⟩

theorem rdL_three {w : World} {A : Nat → Prop} {t : Ty} {l1 l2 : List t.den} {x : t.den} {v1 c v2 : List Value} (h1 : rdL w A t l1 v1) (h2 : t.rd w A x c) (h3 : rdL w A t l2 v2) : rdL w A t (l1 ++ x :: l2) (v1 ++ (c ++ v2)) :=
  rdL_append h1 ⟨c, v2, rfl, h2, h3⟩
theorem three_len {α : Type} (l1 l2 : List α) (x : α) : l1.length + 1 + l2.length = (l1 ++ x :: l2).length := by simp only [List.length_append, List.length_cons]; omega

/-- an open row is closed: what it named is its own from then on -/
theorem Wk.pack {n : Nat} {sl : List SEnt} {hl hl' : List HEnt} (b : Nat) {E : TypeId} {t : Ty} {l1 l2 : List t.den} {cs : List Lf} {x : t.den} (h1 : hget hl b = some (.rox E t l1 cs l2)) (h2 : packH (hget hl) t cs = some (x, []))
    (hk : keepH (hget hl) hl') (hb : hget hl' b = none) (hc : (cs.flatMap Lf.names).all (fun c => (hget hl' c).isNone) = true) :
    Wk n sl hl sl (.put b (.row E t (l1 ++ x :: l2)) :: hl') := by
  intro F G a w h
  have hs := keepH_get hk
  have hget' : ∀ c, hget (.put b (.row E t (l1 ++ x :: l2)) :: hl') c = if c = b then some (.row E t (l1 ++ x :: l2)) else hget hl' c := by
    intro c
    show (bif Nat.beq c b then _ else _) = _
    by_cases e : c = b
    · subst e; rw [beq_self, if_pos rfl]; rfl
    · rw [beq_ne e, if_neg e]; rfl
  have hfoot : ∀ k, Foot (hget (.put b (.row E t (l1 ++ x :: l2)) :: hl')) G k → Foot (hget hl) G k := by
    rintro k ⟨c, oc, q1, q2⟩
    rw [hget'] at q1
    by_cases e : c = b
    · subst e; exact ⟨c, _, h1, q2⟩
    · rw [if_neg e] at q1; exact ⟨c, oc, hs _ _ q1, q2⟩
  have hx : Ext (Foot (hget hl) G) (Okay F (hget hl) G) G w (Okay F (hget (.put b (.row E t (l1 ++ x :: l2)) :: hl')) G) G w [] := ⟨Only.refl _ _, fun k _ ⟨q1, q2⟩ => ⟨q1, fun q3 => q2 (hfoot k q3)⟩, Okay.apart, fun _ _ => rfl⟩
  refine ⟨G, h.df, h.sz, h.lm, fun t => hx.av (fun _ _ => by simp) (h.sl t), ⟨fun c oc hc' => ?_, fun c1 c2 o1 o2 hne q1 q2 k => ?_, fun c oc hc' k hk' => ?_, h.hp.fr, h.hp.zs⟩⟩
  · rw [hget'] at hc'
    by_cases e : c = b
    · subst e
      rw [if_pos rfl] at hc'
      cases hc'
      obtain ⟨v1, c1, v2, m1, m2, m3, m4, m5, m6⟩ := h.hp.sat _ _ h1
      have hA : ∀ k, Okay F (hget hl) G k → Okay F (hget (.put c (.row E t (l1 ++ x :: l2)) :: hl')) G k := fun k ⟨q1, q2⟩ => ⟨q1, fun q3 => q2 (hfoot k q3)⟩
      have mono : ∀ {l : List t.den} {vs : List Value}, rdL w (Okay F (hget hl) G) t l vs → rdL w (Okay F (hget (.put c (.row E t (l1 ++ x :: l2)) :: hl')) G) t l vs := fun hh => rdL_mono (Nat.le_refl _) (fun b hb _ => ⟨hA b hb, rfl⟩) hh
      obtain ⟨c2, q, k1, k2, k3, _⟩ := packH_rd h.hp hA t cs x [] c1 h2 (fun b' hb' ob hob hkind k hfk => by
        have hne : b' ≠ c := by
          rintro rfl
          rw [h1] at hob
          cases hob
          rcases hkind with ⟨_, _, _, e⟩ | ⟨_, _, _, e⟩ <;> cases e
        refine ⟨?_, ?_⟩
        · rcases (h.hp.bd b' ob hob k hfk).2 with r | r
          · exact .inl (h.hp.zs k r)
          · exact .inr r
        · rintro ⟨c', oc', r1, r2⟩
          rw [hget'] at r1
          by_cases e' : c' = c
          · rw [e'] at r2
            exact h.hp.dj _ _ _ _ hne hob h1 k hfk r2
          · rw [if_neg e'] at r1
            have hne' : b' ≠ c' := by
              rintro rfl
              have := List.all_eq_true.1 hc b' hb'
              rw [r1] at this
              cases this
            exact h.hp.dj _ _ _ _ hne' hob (hs _ _ r1) k hfk r2) m2
      obtain rfl := (show q = _ from k3)
      rw [List.append_nil] at k1
      subst k1
      exact ⟨_, rdL_three (mono m1) k2 (mono m4), by rw [← three_len]; exact m5, m6⟩
    · rw [if_neg e] at hc'
      exact (h.hp.sat _ _ (hs _ _ hc')).ext hx (by simp) (by simp) (fun _ _ => rfl) (fun _ => Iff.rfl)
  · have key : ∀ c oc, hget (.put b (.row E t (l1 ++ x :: l2)) :: hl') c = some oc → ∃ o0, hget hl c = some o0 := by
      intro c oc hq
      rw [hget'] at hq
      by_cases e : c = b
      · subst e; exact ⟨_, h1⟩
      · rw [if_neg e] at hq; exact ⟨_, hs _ _ hq⟩
    obtain ⟨_, z1⟩ := key _ _ q1
    obtain ⟨_, z2⟩ := key _ _ q2
    exact h.hp.dj _ _ _ _ hne z1 z2 k
  · rw [hget'] at hc'
    by_cases e : c = b
    · subst e; exact h.hp.bd _ _ h1 k hk'
    · rw [if_neg e] at hc'; exact h.hp.bd _ _ (hs _ _ hc') k hk'

theorem List.set_eq_of_length_le_or_eq {α : Type} (l : List α) (k : Nat) (x : α) (h : l[k]? = some x) : l.set k x = l := by
  obtain ⟨h1, h2⟩ := List.getElem?_eq_some_iff.1 h
  rw [← h2, List.set_getElem_self]
/-- a box's cell that is nil holds a row of length 0 that is owned, with a name d that nothing else has -/
theorem Wk.nilbox {n : Nat} {sl : List SEnt} {hl : List HEnt} (b k d : Nat) (E : TypeId) (ty : Ty) {T : TypeId} {cs : List Lf} (h : hget hl b = some (.box T cs)) (hk : cs[k]? = some .nl) (hbd : Nat.beq b d = false) :
    Wk n sl hl (.scr d :: sl) (.put b (.box T ((cs.map (Lf.scrub d)).set k (.o d))) :: .put d (.row E ty []) :: .scr d d :: hl) := by
  intro F G a w hr
  obtain ⟨G', g1, g2, g3⟩ := grow_step (w' := w) hr.hp d d (.slice none 0 0) (fun _ => False) (.row E ty []) (fun _ hk => hk.elim) (fun _ hk => hk.elim) (Only.refl _ _)
    (fun A' G' q1 q2 _ _ => ⟨[], rfl, by rw [q1]; exact World.ownsRow_nil _ _ _ _, fun k => by rw [q1, q2]; exact ⟨fun hh => hh.elim, fun hh => by cases hh⟩⟩)
  have hne : b ≠ d := fun e => by subst e; rw [beq_self] at hbd; cases hbd
  have hh : hget (.put d (.row E ty []) :: .scr d d :: hl) = upd (scrH (hget hl) d d) d (some (.row E ty [])) := hget_app [.put d (.row E ty []), .scr d d] hl
  have hb : hget (.put d (.row E ty []) :: .scr d d :: hl) b = some (.box T (cs.map (Lf.scrub d))) := by
    rw [hh, upd_ne _ _ hne]
    unfold scrH
    rw [if_neg (by rintro (e | e) <;> exact hne e), h]
    rfl
  rw [← hh] at g2
  have hsat := g2.sat b _ hb
  obtain ⟨gg, vs, s1, s2, s3, s4⟩ := hsat
  have hnew : Sat w G' (Okay F (hget (.put d (.row E ty []) :: .scr d d :: hl)) G') b (.box T ((cs.map (Lf.scrub d)).set k (.o d))) := by
    refine ⟨gg, vs, s1, s2, ?_, s4⟩
    have hlt : k < cs.length := by
      rcases Nat.lt_or_ge k cs.length with q | q
      · exact q
      · rw [List.getElem?_eq_none q] at hk; cases hk
    have hkk : cs[k] = .nl := by rw [List.getElem?_eq_getElem hlt] at hk; exact Option.some.inj hk
    obtain ⟨u, e1, e2⟩ := relL_at s3 k (by simpa using hlt)
    rw [List.getElem_map, hkk] at e2
    obtain rfl := (show u = _ from e2)
    have := relL_set (y := .o d) (u := .slice none 0 0) (w := w) (G := G') (A := Okay F (hget (.put d (.row E ty []) :: .scr d d :: hl)) G') ⟨g3.symm, rfl⟩ k s3
    rw [List.set_eq_of_length_le_or_eq vs.toList k _ e1] at this
    exact this
  have hget2 : ∀ c, hget (.put b (.box T ((cs.map (Lf.scrub d)).set k (.o d))) :: .put d (.row E ty []) :: .scr d d :: hl) c = if c = b then some (.box T ((cs.map (Lf.scrub d)).set k (.o d))) else hget (.put d (.row E ty []) :: .scr d d :: hl) c := by
    intro c
    show (bif Nat.beq c b then _ else _) = _
    by_cases e : c = b
    · subst e; rw [beq_self, if_pos rfl]; rfl
    · rw [beq_ne e, if_neg e]; rfl
  have hfoot : ∀ q, Foot (hget (.put b (.box T ((cs.map (Lf.scrub d)).set k (.o d))) :: .put d (.row E ty []) :: .scr d d :: hl)) G' q ↔ Foot (hget (.put d (.row E ty []) :: .scr d d :: hl)) G' q := by
    intro q
    constructor
    · rintro ⟨c, oc, q1, q2⟩
      rw [hget2] at q1
      by_cases e : c = b
      · subst e; exact ⟨c, _, hb, q2⟩
      · rw [if_neg e] at q1; exact ⟨c, oc, q1, q2⟩
    · rintro ⟨c, oc, q1, q2⟩
      by_cases e : c = b
      · subst e; exact ⟨c, _, by rw [hget2, if_pos rfl], q2⟩
      · exact ⟨c, oc, by rw [hget2, if_neg e]; exact q1, q2⟩
  have hok : Okay F (hget (.put b (.box T ((cs.map (Lf.scrub d)).set k (.o d))) :: .put d (.row E ty []) :: .scr d d :: hl)) G' = Okay F (hget (.put d (.row E ty []) :: .scr d d :: hl)) G' := by
    funext q
    unfold Okay
    rw [hfoot q]
  refine ⟨G', hr.df, hr.sz, hr.lm, fun t => ?_, ⟨fun c oc hc => ?_, fun c1 c2 o1 o2 hne' q1 q2 q => ?_, fun c oc hc q hq => ?_, g2.fr, g2.zs⟩⟩
  · rw [hok]
    have := g1.avS (hr.sl t)
    rw [← hh] at this
    exact this
  · rw [hok]
    rw [hget2] at hc
    by_cases e : c = b
    · subst e; rw [if_pos rfl] at hc; cases hc; exact hnew
    · rw [if_neg e] at hc; exact g2.sat c oc hc
  · have key : ∀ c oc, hget (.put b (.box T ((cs.map (Lf.scrub d)).set k (.o d))) :: .put d (.row E ty []) :: .scr d d :: hl) c = some oc → ∃ o0, hget (.put d (.row E ty []) :: .scr d d :: hl) c = some o0 := by
      intro c oc hq
      rw [hget2] at hq
      by_cases e : c = b
      · subst e; exact ⟨_, hb⟩
      · rw [if_neg e] at hq; exact ⟨_, hq⟩
    obtain ⟨_, z1⟩ := key _ _ q1
    obtain ⟨_, z2⟩ := key _ _ q2
    exact g2.dj _ _ _ _ hne' z1 z2 q
  · rw [hget2] at hc
    by_cases e : c = b
    · subst e; exact g2.bd _ _ hb q hq
    · rw [if_neg e] at hc; exact g2.bd _ _ hc q hq

/-! ### results that are frozen -/
/-- a slice that a cell holds, as data -/
def frzL (hp : Nat → Option Ob) (e : Ty) : Lf → Option (List e.den)
  | .o b => match hp b with
    | some (.rox _ u l1 cs l2) => if h : u = e then (match packH hp u cs with
      | some (x, []) => some (castL h (l1 ++ x :: l2))
      | _ => none) else none
    | _ => asList hp e (.o b)
  | x => asList hp e x
def fzL (hp : Nat → Option Ob) (x y : Lf) : Prop := x = y ∨ ∃ e l, y = .d (.slice e) l ∧ frzL hp e x = some l
def fzLs (hp : Nat → Option Ob) : List Lf → List Lf → Prop
  | [], [] => True
  | x :: xs, y :: ys => fzL hp x y ∧ fzLs hp xs ys
  | _, _ => False
def fzEs (hp : Nat → Option Ob) : List (Bool × List Lf) → List (Bool × List Lf) → Prop
  | [], [] => True
  | x :: xs, y :: ys => (x.1 = y.1 ∧ fzLs hp x.2 y.2) ∧ fzEs hp xs ys
  | _, _ => False
def fzA (hp : Nat → Option Ob) : AV → AV → Prop
  | .v a xs, .v b ys => a = b ∧ fzLs hp xs ys
  | .tu es, .tu fs => fzEs hp es fs
  | x, y => x = y
theorem fzL.same {hp : Nat → Option Ob} {x : Lf} : fzL hp x x := .inl rfl
theorem fzL.frz {hp : Nat → Option Ob} {x : Lf} {e : Ty} {l : List e.den} (h : frzL hp e x = some l) : fzL hp x (.d (.slice e) l) := .inr ⟨e, l, rfl, h⟩

def AllOk (F : Fr) (k : Nat) : Prop := F.Z k ∨ F.w0.heap.size ≤ k
theorem own_allok {F : Fr} {hp : Nat → Option Ob} {G : Gh} {w : World} (h : RepH F hp G w) {b : Nat} {ob : Ob} (hb : hp b = some ob) {k : Nat} (hk : G.f b k) : AllOk F k := by
  rcases (h.bd b ob hb k hk).2 with r | r
  · exact .inl (h.zs k r)
  · exact .inr r
theorem frzL_rd {F : Fr} {hp : Nat → Option Ob} {G : Gh} {w : World} {e : Ty} {x : Lf} {l : List e.den} {v : Value} (he : frzL hp e x = some l) (h : RepH F hp G w) (hx : x.rel w G (Okay F hp G) v) : (Ty.slice e).rd w (AllOk F) l [v] := by
  have simple : asList hp e x = some l → (Ty.slice e).rd w (AllOk F) l [v] := fun he => asList_rd he h hx (fun k hk => hk.1) (fun b _ ob hob _ k hk => own_allok h hob hk)
  cases x with
  | o b =>
    unfold frzL at he
    dsimp only at he
    split at he
    · rename_i E u l1 cs l2 hb
      split at he
      · rename_i hu
        subst hu
        split at he
        · rename_i y hy
          cases he
          obtain ⟨v1, c1, v2, m1, m2, m3, m4, m5, m6⟩ := h.sat _ _ hb
          obtain ⟨c2, q, k1, k2, k3, _⟩ := packH_rd (A' := AllOk F) h (fun k hk => hk.1) u cs y [] c1 hy (fun b' _ ob hob _ k hk => own_allok h hob hk) m2
          obtain rfl := (show q = _ from k3)
          rw [List.append_nil] at k1
          subst k1
          rw [hx.1]
          have mono : ∀ {l : List u.den} {vs : List Value}, rdL w (Okay F hp G) u l vs → rdL w (AllOk F) u l vs := fun hh => rdL_mono (Nat.le_refl _) (fun b hb _ => ⟨hb.1, rfl⟩) hh
          rw [castL_self]
          exact reads_rdB (rdL_three (mono m1) k2 (mono m4)) (by rw [← three_len]; exact m5) fun k hk => own_allok h hb ((m6 k).2 hk)
        · cases he
      · cases he
    · exact simple he
  | _ => exact simple he
theorem fzL_rel {F : Fr} {hp : Nat → Option Ob} {G : Gh} {w : World} {x y : Lf} {v : Value} (he : fzL hp x y) (h : RepH F hp G w) (hx : x.rel w G (Okay F hp G) v) : y.rel w G (AllOk F) v := by
  rcases he with rfl | ⟨e, l, rfl, he⟩
  · have hx' : Ext (fun _ => False) (Okay F hp G) G w (AllOk F) G w [] := ⟨Only.refl _ _, fun k _ hk => hk.1, fun _ _ h => h, fun _ _ => rfl⟩
    exact hx'.lf (by simp) hx
  · exact frzL_rd he h hx
theorem fzLs_rel {F : Fr} {hp : Nat → Option Ob} {G : Gh} {w : World} (h : RepH F hp G w) : ∀ {xs ys : List Lf} {vs : List Value}, fzLs hp xs ys → relL w G (Okay F hp G) xs vs → relL w G (AllOk F) ys vs
  | [], [], _, _, hx => hx
  | x :: xs, y :: ys, vs, he, hx => by
    obtain ⟨v, r, h1, h2, h3⟩ := hx
    exact ⟨v, r, h1, fzL_rel he.1 h h2, fzLs_rel h he.2 h3⟩
  | [], _ :: _, _, he, _ => he.elim
  | _ :: _, [], _, he, _ => he.elim
theorem fzEs_rel {F : Fr} {hp : Nat → Option Ob} {G : Gh} {w : World} (h : RepH F hp G w) : ∀ {xs ys : List (Bool × List Lf)} {vs : List Value}, fzEs hp xs ys → relT w G (Okay F hp G) xs vs → relT w G (AllOk F) ys vs
  | [], [], _, _, hx => hx
  | x :: xs, y :: ys, vs, he, hx => by
    obtain ⟨v, r, h1, ⟨us, k1, k2, k3⟩, h3⟩ := hx
    refine ⟨v, r, h1, ⟨us, fzLs_rel h he.1.2 k1, ?_, ?_⟩, fzEs_rel h he.2 h3⟩
    · rw [← he.1.1]; exact k2
    · rw [← he.1.1]; exact k3
  | [], _ :: _, _, he, _ => he.elim
  | _ :: _, [], _, he, _ => he.elim
theorem fzA_rel {F : Fr} {hp : Nat → Option Ob} {G : Gh} {w : World} (h : RepH F hp G w) {x y : AV} {v : Value} (he : fzA hp x y) (hx : x.rel w G (Okay F hp G) v) : y.rel w G (AllOk F) v := by
  have triv : ∀ {z : AV}, z = .un → z.rel w G (AllOk F) v := by rintro z rfl; trivial
  cases x with
  | v a xs => cases y with
    | v b ys =>
      obtain ⟨rfl, he⟩ := he
      obtain ⟨us, k1, k2, k3⟩ := hx
      exact ⟨us, fzLs_rel h he k1, k2, k3⟩
    | tu fs => cases (show AV.v a xs = AV.tu fs from he)
    | un => trivial
  | tu es => cases y with
    | v b ys => cases (show AV.tu es = AV.v b ys from he)
    | tu fs => obtain ⟨vs, h1, h2⟩ := hx; exact ⟨vs, h1, fzEs_rel h he h2⟩
    | un => trivial
  | un => cases y with
    | v b ys => cases (show AV.un = AV.v b ys from he)
    | tu fs => cases (show AV.un = AV.tu fs from he)
    | un => trivial

theorem frOf_allok {bw : Bool} {n : Nat} {F : Fr} {hp : Nat → Option Ob} {G : Gh} {w : World} (h : RepH F hp G w) (hb : bw = false) {k : Nat} (hk : AllOk (frOf bw F hp G w n) k) : Okay F hp G k := by
  subst hb
  rcases hk with q | q
  · rcases q with q | q
    · cases q
    · exact q
  · refine ⟨.inr (Nat.le_trans h.size q), ?_⟩
    intro hf
    have := h.lt hf
    have q : w.heap.size ≤ k := q
    omega
/-- a function whose answer is data, what it made frozen at its end -/
theorem pureSp_okF {P : Program} {E : Env} (hE : E.Fine P) {f : FuncId} {fn : Func} (hf : P.funcs[f]? = some fn) {bw : Bool} {ts : List Ty} {pre : dens ts → Prop} {res : dens ts → AV} (hpl : ∀ xs, pre xs → (res xs).plain bw = true)
    (h : ∀ xs, saneAll ts xs → pre xs → fnM E fn (argAV ts xs) [] (fun r hl => fzA (hget hl) r (res xs))) : SpecOk P f (pureSp bw ts pre res) := by
  intro d args hp r hr hside
  unfold pureSp at hr
  split at hr
  · rename_i xs hxs
    cases hr
    refine ⟨.inl rfl, fun F G w vals hrep ha => ?_⟩
    refine Calls.mono (fnM_calls hE hf (h xs (args_sane _ _ _ (frOf_args (n := 0) hrep hxs ha)) hside) (frOf_rep bw F hp G w fn.ntmps) (frOf_args hrep hxs ha)) ?_
    rintro e w' ⟨v, r, hl', G', rfl, hk, k1, k2⟩
    obtain ⟨m1, m2⟩ := hrep.after (w' := w') k1.fr
    have k3 := fzA_rel k1 hk k2
    exact ⟨v, rfl, G, m2, m1, plain_av (fun hb t x cs hh => Ty.rd_mono (Nat.le_refl _) (fun b hb' _ => ⟨frOf_allok hrep hb hb', rfl⟩) t x cs hh) (hpl xs hside) k3⟩
  · cases hr
end Go.Proofs.Ytdpcbffmmndhcaa
