/- Sx, part B: how a state goes on: a new block, a store, a row that grows. -/
import Derived.Test.YtdpcbffmmndhcaaSxA
namespace Go.Proofs.Ytdpcbffmmndhcaa
open Go.RowKit

def upd {α : Type} (f : Nat → α) (b : Nat) (x : α) : Nat → α := fun k => if k = b then x else f k
theorem upd_same {α : Type} (f : Nat → α) (b : Nat) (x : α) : upd f b x b = x := if_pos rfl
theorem upd_ne {α : Type} (f : Nat → α) {b k : Nat} (x : α) (h : k ≠ b) : upd f b x k = f k := if_neg h

/-- an object that nothing has touched -/
theorem Sat.ext {Ft A : Nat → Prop} {G : Gh} {w : World} {A' : Nat → Prop} {G' : Gh} {w' : World} {Nw : List Nat} {b : Nat} {ob : Ob} (h : Sat w G A b ob) (e : Ext Ft A G w A' G' w' Nw)
    (hb : b ∉ Nw) (hn : ∀ c ∈ ob.names, c ∉ Nw) (hk : ∀ k, G.f b k → w'.heap[k]? = w.heap[k]?) (hf : ∀ k, G'.f b k ↔ G.f b k) : Sat w' G' A' b ob := by
  cases ob with
  | box T cs =>
    obtain ⟨g, vs, h1, h2, h3, h4⟩ := h
    exact ⟨g, vs, (e.r b hb).trans h1, (hk g ((h4 g).2 rfl)).trans h2, e.ls hn h3, fun k => (hf k).trans (h4 k)⟩
  | arr E n cs =>
    obtain ⟨g, vs, h1, h0, h2, h3, h4⟩ := h
    exact ⟨g, vs, (e.r b hb).trans h1, h0, (hk g ((h4 g).2 rfl)).trans h2, e.ls hn h3, fun k => (hf k).trans (h4 k)⟩
  | row E t l =>
    obtain ⟨vs, h1, h2, h3⟩ := h
    refine ⟨vs, rdL_mono e.only.size (fun k hk' hl => ⟨e.keepA k hl hk', e.only.block k hl (e.apart k hk')⟩) h1, ?_, fun k => by rw [e.r b hb]; exact (hf k).trans (h3 k)⟩
    rw [e.r b hb]
    obtain ⟨q1, q2⟩ := h2
    refine ⟨q1, ?_⟩
    rcases q2 with q2 | ⟨g, cap, cur, q3, q4, q5, q6⟩
    · exact .inl q2
    · exact .inr ⟨g, cap, cur, q3, q4, (hk g ((h3 g).2 (by rw [q3]; rfl))).trans q5, q6⟩
  | rox E t l1 cs l2 =>
    obtain ⟨v1, c, v2, h1, h5, h6, h7, h2, h3⟩ := h
    have mono : ∀ {l : List t.den} {vs : List Value}, rdL w A t l vs → rdL w' A' t l vs := fun hh => rdL_mono e.only.size (fun k hk' hl => ⟨e.keepA k hl hk', e.only.block k hl (e.apart k hk')⟩) hh
    refine ⟨v1, c, v2, mono h1, e.ls hn h5, h6, mono h7, ?_, fun k => by rw [e.r b hb]; exact (hf k).trans (h3 k)⟩
    rw [e.r b hb]
    obtain ⟨q1, q2⟩ := h2
    refine ⟨q1, ?_⟩
    rcases q2 with q2 | ⟨g, cap, cur, q3, q4, q5, q6⟩
    · exact .inl q2
    · exact .inr ⟨g, cap, cur, q3, q4, (hk g ((h3 g).2 (by rw [q3]; rfl))).trans q5, q6⟩

theorem relL_len {w : World} {G : Gh} {A : Nat → Prop} : ∀ {xs : List Lf} {vs : List Value}, relL w G A xs vs → vs.length = xs.length
  | [], vs, h => by rw [show vs = _ from h]; rfl
  | x :: xs, vs, h => by obtain ⟨v, r, rfl, _, h2⟩ := h; simp [relL_len h2]
theorem relL_one {w : World} {G : Gh} {A : Nat → Prop} : ∀ {xs : List Lf} {vs : List Value}, relL w G A xs vs → ∀ u ∈ vs, u.oneCell' = true
  | [], vs, h => by rw [show vs = _ from h]; simp
  | x :: xs, vs, h => by
    obtain ⟨v, r, rfl, h1, h2⟩ := h
    intro u hu
    rcases List.mem_cons.1 hu with rfl | hu
    · exact Lf.rel_one h1
    · exact relL_one h2 u hu
theorem relL_append {w : World} {G : Gh} {A : Nat → Prop} : ∀ {xs ys : List Lf} {vs us : List Value}, relL w G A xs vs → relL w G A ys us → relL w G A (xs ++ ys) (vs ++ us)
  | [], ys, vs, us, h, k => by rw [show vs = _ from h]; exact k
  | x :: xs, ys, vs, us, h, k => by obtain ⟨v, r, rfl, h1, h2⟩ := h; exact ⟨v, r ++ us, rfl, h1, relL_append h2 k⟩
theorem relL_drop {w : World} {G : Gh} {A : Nat → Prop} : ∀ {xs : List Lf} {vs : List Value} (n : Nat), relL w G A xs vs → relL w G A (xs.drop n) (vs.drop n)
  | xs, vs, 0, h => h
  | [], vs, n + 1, h => by rw [show vs = _ from h]; rfl
  | x :: xs, vs, n + 1, h => by obtain ⟨v, r, rfl, h1, h2⟩ := h; exact relL_drop n h2
theorem relL_take {w : World} {G : Gh} {A : Nat → Prop} : ∀ {xs : List Lf} {vs : List Value} (n : Nat), relL w G A xs vs → relL w G A (xs.take n) (vs.take n)
  | xs, vs, 0, h => by simp [relL]
  | [], vs, n + 1, h => by rw [show vs = _ from h]; rfl
  | x :: xs, vs, n + 1, h => by obtain ⟨v, r, rfl, h1, h2⟩ := h; exact ⟨v, r.take n, rfl, h1, relL_take n h2⟩
theorem relL_at {w : World} {G : Gh} {A : Nat → Prop} : ∀ {xs : List Lf} {vs : List Value}, relL w G A xs vs → ∀ i (h : i < xs.length), ∃ v, vs[i]? = some v ∧ xs[i].rel w G A v
  | x :: xs, vs, h, 0, hi => by obtain ⟨v, r, rfl, h1, h2⟩ := h; exact ⟨v, rfl, h1⟩
  | x :: xs, vs, h, i + 1, hi => by obtain ⟨v, r, rfl, h1, h2⟩ := h; exact relL_at h2 i (by simpa using hi)
theorem relL_set {w : World} {G : Gh} {A : Nat → Prop} {y : Lf} {u : Value} (hy : y.rel w G A u) : ∀ {xs : List Lf} {vs : List Value} (i : Nat), relL w G A xs vs → relL w G A (xs.set i y) (vs.set i u)
  | [], vs, i, h => by rw [show vs = _ from h]; rfl
  | x :: xs, vs, 0, h => by obtain ⟨v, r, rfl, h1, h2⟩ := h; exact ⟨u, r, rfl, hy, h2⟩
  | x :: xs, vs, i + 1, h => by obtain ⟨v, r, rfl, h1, h2⟩ := h; exact ⟨v, r.set i u, rfl, h1, relL_set hy i h2⟩

theorem RepH.lt {F : Fr} {hp : Nat → Option Ob} {G : Gh} {w : World} (h : RepH F hp G w) {k : Nat} (hk : Foot hp G k) : k < w.heap.size := by
  obtain ⟨b, ob, h1, h2⟩ := hk
  exact (h.bd b ob h1 k h2).1
theorem RepH.at {F : Fr} {hp : Nat → Option Ob} {G : Gh} {w : World} (h : RepH F hp G w) {k : Nat} (hk : Foot hp G k) : F.S k ∨ F.w0.heap.size ≤ k := by
  obtain ⟨b, ob, h1, h2⟩ := hk
  exact (h.bd b ob h1 k h2).2
theorem RepH.size {F : Fr} {hp : Nat → Option Ob} {G : Gh} {w : World} (h : RepH F hp G w) : F.w0.heap.size ≤ w.heap.size := h.fr.size

theorem Ext.refl (Ft A : Nat → Prop) (G : Gh) (w : World) (h : ∀ k, A k → ¬ Ft k) : Ext Ft A G w A G w [] := ⟨Only.refl _ _, fun _ _ h => h, h, fun _ _ => rfl⟩
theorem Okay.apart {F : Fr} {hp : Nat → Option Ob} {G : Gh} (k : Nat) (h : Okay F hp G k) : ¬ Foot hp G k := h.2

/-- what speaks of the name d no longer does -/
def Lf.scrub (d : Nat) : Lf → Lf
  | .p b off => bif Nat.beq b d then .un else .p b off
  | .o b => bif Nat.beq b d then .un else .o b
  | .pe b i s k => bif Nat.beq b d then .un else .pe b i s k
  | .px b i s k => bif Nat.beq b d then .un else .px b i s k
  | .fn f c => bif c.any (fun b => Nat.beq b d) then .un else .fn f c
  | x => x
def AV.scrub (d : Nat) : AV → AV
  | .v agg ls => .v agg (ls.map (Lf.scrub d))
  | .tu es => .tu (es.map fun e => (e.1, e.2.map (Lf.scrub d)))
  | .un => .un
def Ob.scrub (d : Nat) : Ob → Ob
  | .box T cs => .box T (cs.map (Lf.scrub d))
  | .arr E n cs => .arr E n (cs.map (Lf.scrub d))
  | .row E t l => .row E t l
  | .rox E t l1 cs l2 => .rox E t l1 (cs.map (Lf.scrub d)) l2

theorem Ext.lfS {Ft A : Nat → Prop} {G : Gh} {w : World} {A' : Nat → Prop} {G' : Gh} {w' : World} {d : Nat} (h : Ext Ft A G w A' G' w' [d]) {x : Lf} {v : Value} (hr : x.rel w G A v) : (x.scrub d).rel w' G' A' v := by
  have key : ∀ b : Nat, Nat.beq b d = false → ∀ c ∈ [b], c ∉ [d] := by
    intro b hb c hc hd
    simp at hc hd
    subst hc; subst hd
    simp at hb
  cases x with
  | p b off =>
    cases hb : Nat.beq b d
    · rw [show Lf.scrub d (.p b off) = .p b off by simp only [Lf.scrub, hb, cond_false]]
      exact h.lf (x := .p b off) (key b hb) hr
    · rw [show Lf.scrub d (.p b off) = .un by simp only [Lf.scrub, hb, cond_true]]
      exact Lf.rel_one hr
  | o b =>
    cases hb : Nat.beq b d
    · rw [show Lf.scrub d (.o b) = .o b by simp only [Lf.scrub, hb, cond_false]]
      exact h.lf (x := .o b) (key b hb) hr
    · rw [show Lf.scrub d (.o b) = .un by simp only [Lf.scrub, hb, cond_true]]
      exact Lf.rel_one hr
  | pe b i s k =>
    cases hb : Nat.beq b d
    · rw [show Lf.scrub d (.pe b i s k) = .pe b i s k by simp only [Lf.scrub, hb, cond_false]]
      exact h.lf (x := .pe b i s k) (key b hb) hr
    · rw [show Lf.scrub d (.pe b i s k) = .un by simp only [Lf.scrub, hb, cond_true]]
      exact Lf.rel_one hr
  | px b i s k =>
    cases hb : Nat.beq b d
    · rw [show Lf.scrub d (.px b i s k) = .px b i s k by simp only [Lf.scrub, hb, cond_false]]
      exact h.lf (x := .px b i s k) (key b hb) hr
    · rw [show Lf.scrub d (.px b i s k) = .un by simp only [Lf.scrub, hb, cond_true]]
      exact Lf.rel_one hr
  | fn f c =>
    cases hb : c.any (fun b => Nat.beq b d)
    · rw [show Lf.scrub d (.fn f c) = .fn f c by simp only [Lf.scrub, hb, cond_false]]
      refine h.lf (x := .fn f c) (fun b hbc hbd => ?_) hr
      rw [List.any_eq_false] at hb
      simp at hbd
      subst hbd
      exact hb b hbc (by simp)
    · rw [show Lf.scrub d (.fn f c) = .un by simp only [Lf.scrub, hb, cond_true]]
      exact Lf.rel_one hr
  | d t x => exact h.lf (x := .d t x) (by simp [Lf.names]) hr
  | nl => exact hr
  | np => exact hr
  | dp t x => exact h.lf (x := .dp t x) (by simp [Lf.names]) hr
  | nf => exact hr
  | un => exact hr
theorem Ext.lsS {Ft A : Nat → Prop} {G : Gh} {w : World} {A' : Nat → Prop} {G' : Gh} {w' : World} {d : Nat} (h : Ext Ft A G w A' G' w' [d]) : ∀ {xs : List Lf} {vs : List Value}, relL w G A xs vs → relL w' G' A' (xs.map (Lf.scrub d)) vs
  | [], vs, hr => hr
  | x :: xs, vs, hr => by obtain ⟨v, r, h1, h2, h3⟩ := hr; exact ⟨v, r, h1, h.lfS h2, h.lsS h3⟩
theorem Ext.eS {Ft A : Nat → Prop} {G : Gh} {w : World} {A' : Nat → Prop} {G' : Gh} {w' : World} {d : Nat} (h : Ext Ft A G w A' G' w' [d]) {x : Bool × List Lf} {v : Value} (hr : relE w G A x v) : relE w' G' A' (x.1, x.2.map (Lf.scrub d)) v := by
  obtain ⟨vs, h1, h2, h3⟩ := hr; exact ⟨vs, h.lsS h1, h2, h3⟩
theorem Ext.tuS {Ft A : Nat → Prop} {G : Gh} {w : World} {A' : Nat → Prop} {G' : Gh} {w' : World} {d : Nat} (h : Ext Ft A G w A' G' w' [d]) : ∀ {xs : List (Bool × List Lf)} {vs : List Value}, relT w G A xs vs → relT w' G' A' (xs.map fun e => (e.1, e.2.map (Lf.scrub d))) vs
  | [], vs, hr => hr
  | x :: xs, vs, hr => by obtain ⟨v, r, h1, h2, h3⟩ := hr; exact ⟨v, r, h1, h.eS h2, h.tuS h3⟩
theorem Ext.avS {Ft A : Nat → Prop} {G : Gh} {w : World} {A' : Nat → Prop} {G' : Gh} {w' : World} {d : Nat} (h : Ext Ft A G w A' G' w' [d]) {x : AV} {v : Value} (hr : x.rel w G A v) : (x.scrub d).rel w' G' A' v := by
  cases x with
  | v agg ls => exact h.eS (x := (agg, ls)) hr
  | tu es => obtain ⟨vs, h1, h2⟩ := hr; exact ⟨vs, h1, h.tuS h2⟩
  | un => trivial

theorem Sat.extS {Ft A : Nat → Prop} {G : Gh} {w : World} {A' : Nat → Prop} {G' : Gh} {w' : World} {d : Nat} {b : Nat} {ob : Ob} (h : Sat w G A b ob) (e : Ext Ft A G w A' G' w' [d])
    (hb : b ≠ d) (hk : ∀ k, G.f b k → w'.heap[k]? = w.heap[k]?) (hf : ∀ k, G'.f b k ↔ G.f b k) : Sat w' G' A' b (ob.scrub d) := by
  have hr := e.r b (by simpa using hb)
  cases ob with
  | box T cs =>
    obtain ⟨g, vs, h1, h2, h3, h4⟩ := h
    exact ⟨g, vs, hr.trans h1, (hk g ((h4 g).2 rfl)).trans h2, e.lsS h3, fun k => (hf k).trans (h4 k)⟩
  | arr E n cs =>
    obtain ⟨g, vs, h1, h0, h2, h3, h4⟩ := h
    exact ⟨g, vs, hr.trans h1, h0, (hk g ((h4 g).2 rfl)).trans h2, e.lsS h3, fun k => (hf k).trans (h4 k)⟩
  | row E t l =>
    obtain ⟨vs, h1, h2, h3⟩ := h
    refine ⟨vs, rdL_mono e.only.size (fun k hk' hl => ⟨e.keepA k hl hk', e.only.block k hl (e.apart k hk')⟩) h1, ?_, fun k => by rw [hr]; exact (hf k).trans (h3 k)⟩
    rw [hr]
    obtain ⟨q1, q2⟩ := h2
    refine ⟨q1, ?_⟩
    rcases q2 with q2 | ⟨g, cap, cur, q3, q4, q5, q6⟩
    · exact .inl q2
    · exact .inr ⟨g, cap, cur, q3, q4, (hk g ((h3 g).2 (by rw [q3]; rfl))).trans q5, q6⟩
  | rox E t l1 cs l2 =>
    obtain ⟨v1, c, v2, h1, h5, h6, h7, h2, h3⟩ := h
    have mono : ∀ {l : List t.den} {vs : List Value}, rdL w A t l vs → rdL w' A' t l vs := fun hh => rdL_mono e.only.size (fun k hk' hl => ⟨e.keepA k hl hk', e.only.block k hl (e.apart k hk')⟩) hh
    refine ⟨v1, c, v2, mono h1, e.lsS h5, h6, mono h7, ?_, fun k => by rw [hr]; exact (hf k).trans (h3 k)⟩
    rw [hr]
    obtain ⟨q1, q2⟩ := h2
    refine ⟨q1, ?_⟩
    rcases q2 with q2 | ⟨g, cap, cur, q3, q4, q5, q6⟩
    · exact .inl q2
    · exact .inr ⟨g, cap, cur, q3, q4, (hk g ((h3 g).2 (by rw [q3]; rfl))).trans q5, q6⟩

/-- the heap without the names b and d, and d not spoken of -/
def scrH (hp : Nat → Option Ob) (b d : Nat) : Nat → Option Ob := fun c => if c = b ∨ c = d then none else (hp c).map (Ob.scrub d)

theorem scrH_some {hp : Nat → Option Ob} {b d c : Nat} {oc : Ob} (h : scrH hp b d c = some oc) : c ≠ b ∧ c ≠ d ∧ ∃ o0, hp c = some o0 ∧ oc = o0.scrub d := by
  unfold scrH at h
  split at h
  · cases h
  · rename_i hn
    rw [Option.map_eq_some_iff] at h
    obtain ⟨o0, h1, h2⟩ := h
    exact ⟨fun e => hn (.inl e), fun e => hn (.inr e), o0, h1, h2.symm⟩

/-- an object with the name d comes, in new blocks or in those of b, which goes -/
theorem grow_step {F : Fr} {hp : Nat → Option Ob} {G : Gh} {w w' : World} (h : RepH F hp G w) (b d : Nat) (hv : Value) (Fo : Nat → Prop) (ob : Ob)
    (hold : ∀ k, Fo k → k < w.heap.size → ∃ o0, hp b = some o0 ∧ G.f b k) (hlt : ∀ k, Fo k → k < w'.heap.size)
    (ho : Only (fun k => ∃ o0, hp b = some o0 ∧ G.f b k) w w')
    (hs : ∀ A' G', G'.r d = hv → (∀ k, G'.f d k ↔ Fo k) → (∀ k, w.heap.size ≤ k → k < w'.heap.size → ¬ Fo k → A' k) → Ext (Foot hp G) (Okay F hp G) G w A' G' w' [d] → Sat w' G' A' d ob) :
    ∃ G', Ext (Foot hp G) (Okay F hp G) G w (Okay F (upd (scrH hp b d) d (some ob)) G') G' w' [d] ∧ RepH F (upd (scrH hp b d) d (some ob)) G' w' ∧ G'.r d = hv := by
  let G' : Gh := ⟨upd G.r d hv, upd G.f d Fo⟩
  have hfd : ∀ k, G'.f d k ↔ Fo k := fun k => by show upd G.f d _ d k ↔ _; rw [upd_same]
  have hfo : ∀ c, c ≠ d → ∀ k, G'.f c k ↔ G.f c k := fun c hc k => by show upd G.f d _ c k ↔ _; rw [upd_ne _ _ hc]
  have hother : ∀ c oc, c ≠ d → upd (scrH hp b d) d (some ob) c = some oc → c ≠ b ∧ ∃ o0, hp c = some o0 ∧ oc = o0.scrub d := by
    intro c oc hc hh
    rw [upd_ne _ _ hc] at hh
    obtain ⟨h1, _, h3⟩ := scrH_some hh
    exact ⟨h1, h3⟩
  have hfoot : ∀ k, k < w.heap.size → Foot (upd (scrH hp b d) d (some ob)) G' k → Foot hp G k := by
    rintro k hk ⟨c, oc, h1, h2⟩
    by_cases hc : c = d
    · subst hc
      obtain ⟨o0, q1, q2⟩ := hold k ((hfd k).1 h2) hk
      exact ⟨b, o0, q1, q2⟩
    · obtain ⟨_, o0, q1, _⟩ := hother c oc hc h1
      exact ⟨c, o0, q1, (hfo c hc k).1 h2⟩
  have hon : Only (Foot hp G) w w' := ⟨ho.os, ho.tape, ho.output, ho.size, fun k hk hn => ho.block k hk (fun ⟨o0, q1, q2⟩ => hn ⟨b, o0, q1, q2⟩)⟩
  have hx : Ext (Foot hp G) (Okay F hp G) G w (Okay F (upd (scrH hp b d) d (some ob)) G') G' w' [d] := by
    refine ⟨hon, fun k hk ⟨h1, h2⟩ => ⟨h1, fun h3 => h2 (hfoot k hk h3)⟩, Okay.apart, fun c hc => ?_⟩
    show upd G.r d hv c = G.r c
    exact upd_ne _ _ (by simpa using hc)
  refine ⟨G', hx, ⟨?_, ?_, ?_, ?_, h.zs⟩, upd_same _ _ _⟩
  · intro c oc hc'
    by_cases hc : c = d
    · subst hc
      rw [upd_same] at hc'
      cases hc'
      refine hs _ G' (upd_same _ _ _) hfd (fun k k1 k2 k3 => ?_) hx
      refine ⟨.inr (Nat.le_trans h.size k1), ?_⟩
      rintro ⟨e, oe, h1, h2⟩
      by_cases he : e = c
      · subst he; exact k3 ((hfd k).1 h2)
      · obtain ⟨_, o0, q1, _⟩ := hother e oe he h1
        have := (h.bd e o0 q1 k ((hfo e he k).1 h2)).1
        omega
    · obtain ⟨hcb, o0, q1, rfl⟩ := hother c oc hc hc'
      refine (h.sat c o0 q1).extS hx hc (fun k hk => ho.block k (h.bd c o0 q1 k hk).1 ?_) (hfo c hc)
      rintro ⟨ob0, r1, r2⟩
      exact h.dj c b o0 ob0 hcb q1 r1 k hk r2
  · have one : ∀ c oc, c ≠ d → upd (scrH hp b d) d (some ob) c = some oc → ∀ k, G'.f c k → ¬ G'.f d k := by
      intro c oc hc h1 k k1 k2
      obtain ⟨hcb, o0, q1, _⟩ := hother c oc hc h1
      have k1' := (hfo c hc k).1 k1
      obtain ⟨ob0, r1, r2⟩ := hold k ((hfd k).1 k2) (h.bd c o0 q1 k k1').1
      exact h.dj c b o0 ob0 hcb q1 r1 k k1' r2
    intro c1 c2 o1 o2 hne h1 h2 k k1 k2
    by_cases e1 : c1 = d
    · subst e1
      exact one c2 o2 (Ne.symm hne) h2 k k2 k1
    · by_cases e2 : c2 = d
      · subst e2
        exact one c1 o1 hne h1 k k1 k2
      · obtain ⟨_, p1, q1, _⟩ := hother c1 o1 e1 h1
        obtain ⟨_, p2, q2, _⟩ := hother c2 o2 e2 h2
        exact h.dj c1 c2 p1 p2 hne q1 q2 k ((hfo c1 e1 k).1 k1) ((hfo c2 e2 k).1 k2)
  · intro c oc hc' k hk
    by_cases hc : c = d
    · subst hc
      have q := (hfd k).1 hk
      refine ⟨hlt k q, ?_⟩
      rcases Nat.lt_or_ge k w.heap.size with hl | hl
      · obtain ⟨o0, r1, r2⟩ := hold k q hl
        exact (h.bd b o0 r1 k r2).2
      · exact .inr (Nat.le_trans h.size hl)
    · obtain ⟨_, o0, q1, _⟩ := hother c oc hc hc'
      have := h.bd c o0 q1 k ((hfo c hc k).1 hk)
      exact ⟨Nat.lt_of_lt_of_le this.1 ho.size, this.2⟩
  · exact ⟨hon.os.trans h.fr.os, hon.tape.trans h.fr.tape, hon.output.trans h.fr.output, Nat.le_trans h.fr.size hon.size, fun k hk hn => by
      refine (hon.block k (Nat.lt_of_lt_of_le hk h.fr.size) ?_).trans (h.fr.block k hk hn)
      intro hf
      rcases h.at hf with q | q
      · exact hn q
      · omega⟩

/-- a block that is made -/
theorem alloc_step {F : Fr} {hp : Nat → Option Ob} {G : Gh} {w : World} (h : RepH F hp G w) (d : Nat) (hv : Value) (vs : Array Value) (T : TypeId) (ob : Ob)
    (hs : ∀ A' G', G'.r d = hv → (∀ k, G'.f d k ↔ k = w.heap.size) → Ext (Foot hp G) (Okay F hp G) G w A' G' (w.alloc (.cells vs T)) [d] → Sat (w.alloc (.cells vs T)) G' A' d ob) :
    ∃ G', Ext (Foot hp G) (Okay F hp G) G w (Okay F (upd (scrH hp d d) d (some ob)) G') G' (w.alloc (.cells vs T)) [d] ∧ RepH F (upd (scrH hp d d) d (some ob)) G' (w.alloc (.cells vs T)) ∧ G'.r d = hv :=
  grow_step h d d hv (fun k => k = w.heap.size) ob (fun k hk hl => absurd hl (by omega)) (fun k hk => by simp; omega) ((Only.refl _ _).alloc _) (fun A' G' h1 h2 _ h4 => hs A' G' h1 h2 h4)

/-- a change within the block of one object -/
theorem write_step {F : Fr} {hp : Nat → Option Ob} {G : Gh} {w w' : World} (h : RepH F hp G w) (b : Nat) (ob ob' : Ob) (hb : hp b = some ob)
    (ho : Only (G.f b) w w') (hs : Ext (Foot hp G) (Okay F hp G) G w (Okay F hp G) G w' [] → Sat w' G (Okay F hp G) b ob') :
    Ext (Foot hp G) (Okay F hp G) G w (Okay F (upd hp b (some ob')) G) G w' [] ∧ RepH F (upd hp b (some ob')) G w' := by
  have hfoot : ∀ k, Foot (upd hp b (some ob')) G k ↔ Foot hp G k := by
    intro k
    constructor
    · rintro ⟨c, oc, h1, h2⟩
      by_cases hc : c = b
      · subst hc; exact ⟨c, ob, hb, h2⟩
      · rw [upd_ne _ _ hc] at h1; exact ⟨c, oc, h1, h2⟩
    · rintro ⟨c, oc, h1, h2⟩
      by_cases hc : c = b
      · subst hc; exact ⟨c, ob', upd_same _ _ _, h2⟩
      · exact ⟨c, oc, by rw [upd_ne _ _ hc]; exact h1, h2⟩
  have hok : Okay F (upd hp b (some ob')) G = Okay F hp G := by
    funext k
    simp only [Okay, hfoot k]
  have hon : Only (Foot hp G) w w' := ⟨ho.os, ho.tape, ho.output, ho.size, fun k hk hn => ho.block k hk (fun hf => hn ⟨b, ob, hb, hf⟩)⟩
  have hx : Ext (Foot hp G) (Okay F hp G) G w (Okay F hp G) G w' [] := ⟨hon, fun _ _ h => h, Okay.apart, fun _ _ => rfl⟩
  rw [hok]
  refine ⟨hx, ⟨?_, ?_, ?_, ?_, h.zs⟩⟩
  · intro c oc hc
    rw [hok]
    by_cases e : c = b
    · subst e
      rw [upd_same] at hc
      cases hc
      exact hs hx
    · rw [upd_ne _ _ e] at hc
      exact (h.sat c oc hc).ext hx (by simp) (by simp) (fun k hk => ho.block k (h.bd c oc hc k hk).1 (fun hf => h.dj c b oc ob e hc hb k hk hf)) (fun _ => Iff.rfl)
  · intro c1 c2 o1 o2 hne h1 h2 k k1 k2
    have q1 : ∃ o, hp c1 = some o := by
      by_cases e : c1 = b
      · subst e; exact ⟨_, hb⟩
      · rw [upd_ne _ _ e] at h1; exact ⟨_, h1⟩
    have q2 : ∃ o, hp c2 = some o := by
      by_cases e : c2 = b
      · subst e; exact ⟨_, hb⟩
      · rw [upd_ne _ _ e] at h2; exact ⟨_, h2⟩
    obtain ⟨p1, q1⟩ := q1
    obtain ⟨p2, q2⟩ := q2
    exact h.dj c1 c2 p1 p2 hne q1 q2 k k1 k2
  · intro c oc hc k hk
    have q1 : ∃ o, hp c = some o := by
      by_cases e : c = b
      · subst e; exact ⟨_, hb⟩
      · rw [upd_ne _ _ e] at hc; exact ⟨_, hc⟩
    obtain ⟨p1, q1⟩ := q1
    have := h.bd c p1 q1 k hk
    exact ⟨Nat.lt_of_lt_of_le this.1 ho.size, this.2⟩
  · exact ⟨hon.os.trans h.fr.os, hon.tape.trans h.fr.tape, hon.output.trans h.fr.output, Nat.le_trans h.fr.size hon.size, fun k hk hn => by
      refine (hon.block k (Nat.lt_of_lt_of_le hk h.fr.size) ?_).trans (h.fr.block k hk hn)
      intro hf
      rcases h.at hf with q | q
      · exact hn q
      · omega⟩

/-- a world that has only drawn -/
theorem RepH.drewN {F : Fr} {hp : Nat → Option Ob} {G : Gh} {w : World} (h : RepH F hp G w) (n : Nat) : RepH F hp G (w.drewN n) := by
  have hx : Ext (Foot hp G) (Okay F hp G) G w (Okay F hp G) G (w.drewN n) [] := ⟨(Only.refl _ _).drewN n, fun _ _ h => h, Okay.apart, fun _ _ => rfl⟩
  exact ⟨fun b ob hb => (h.sat b ob hb).ext hx (by simp) (by simp) (fun _ _ => rfl) (fun _ => Iff.rfl), h.dj, h.bd, h.fr.drewN n, h.zs⟩

/-- a name that is let go -/
theorem drop_step {F : Fr} {hp : Nat → Option Ob} {G : Gh} {w : World} (h : RepH F hp G w) (b : Nat) :
    Ext (Foot hp G) (Okay F hp G) G w (Okay F (upd hp b none) G) G w [] ∧ RepH F (upd hp b none) G w := by
  have hfoot : ∀ k, Foot (upd hp b none) G k → Foot hp G k := by
    rintro k ⟨c, oc, h1, h2⟩
    by_cases hc : c = b
    · subst hc; rw [upd_same] at h1; cases h1
    · rw [upd_ne _ _ hc] at h1; exact ⟨c, oc, h1, h2⟩
  have hget : ∀ c oc, upd hp b none c = some oc → c ≠ b ∧ hp c = some oc := by
    intro c oc hc
    by_cases e : c = b
    · subst e; rw [upd_same] at hc; cases hc
    · rw [upd_ne _ _ e] at hc; exact ⟨e, hc⟩
  have hx : Ext (Foot hp G) (Okay F hp G) G w (Okay F (upd hp b none) G) G w [] := ⟨Only.refl _ _, fun k _ ⟨h1, h2⟩ => ⟨h1, fun h3 => h2 (hfoot k h3)⟩, Okay.apart, fun _ _ => rfl⟩
  exact ⟨hx, ⟨fun c oc hc => (h.sat c oc (hget c oc hc).2).ext hx (by simp) (by simp) (fun _ _ => rfl) (fun _ => Iff.rfl),
    fun c1 c2 o1 o2 hne h1 h2 => h.dj c1 c2 o1 o2 hne (hget _ _ h1).2 (hget _ _ h2).2, fun c oc hc => h.bd c oc (hget _ _ hc).2, h.fr, h.zs⟩⟩

end Go.Proofs.Ytdpcbffmmndhcaa
