/- Weaker states, more: a row that was built at once is an owned row. -/
import Derived.Test.YtgdlbpihkodeoaaFwE
namespace Go.Proofs.Ytgdlbpihkodeoaa
open Go.RowKit

/-- an object in place of another of the same blocks -/
theorem Wk.same {n : Nat} {sl : List SEnt} {hl : List HEnt} (b : Nat) {ob ob' : Ob} (hb : hget hl b = some ob) (hs : ∀ F G w, RepH F (hget hl) G w → Sat w G (Okay F (hget hl) G) b ob → Sat w G (Okay F (hget hl) G) b ob') : Wk n sl hl sl (.put b ob' :: hl) := by
  intro F G a w hr
  obtain ⟨hx, hq⟩ := write_step (w' := w) hr.hp b ob ob' hb (Only.refl _ _) (fun _ => hs F G w hr.hp (hr.hp.sat b ob hb))
  have hh : hget (.put b ob' :: hl) = upd (hget hl) b (some ob') := hget_app [.put b ob'] hl
  have hok : Okay F (hget hl) G = Okay F (upd (hget hl) b (some ob')) G := by
    funext k
    have : Foot (hget hl) G k ↔ Foot (upd (hget hl) b (some ob')) G k := by
      constructor
      · rintro ⟨c, oc, q1, q2⟩
        by_cases hc : c = b
        · subst hc; exact ⟨c, _, upd_same _ _ _, q2⟩
        · exact ⟨c, oc, by rw [upd_ne _ _ hc]; exact q1, q2⟩
      · rintro ⟨c, oc, q1, q2⟩
        by_cases hc : c = b
        · subst hc; exact ⟨c, ob, hb, q2⟩
        · rw [upd_ne _ _ hc] at q1; exact ⟨c, oc, q1, q2⟩
    exact propext ⟨fun ⟨k1, k2⟩ => ⟨k1, fun k3 => k2 (this.2 k3)⟩, fun ⟨k1, k2⟩ => ⟨k1, fun k3 => k2 (this.1 k3)⟩⟩
  refine ⟨G, hr.df, hr.sz, hr.lm, fun k => ?_, by rw [hh]; exact hq⟩
  have := hr.sl k
  rw [hok, ← hh] at this
  exact this
theorem Wk.arow {n : Nat} {sl : List SEnt} {hl : List HEnt} (b m : Nat) {E : TypeId} {t : Ty} {cs : List Lf} {l : List t.den} (hb : hget hl b = some (.arr E m cs)) (hl' : packN t m cs = some l) : Wk n sl hl sl (.put b (.row E t l) :: hl) := by
  refine Wk.same b hb fun F G w hr hs => ?_
  obtain ⟨g, vs, h1, h0, h2, h3, h4⟩ := hs
  have e1 : ownOf (hget hl) t b (.o b) = some (b, l) := by simp only [ownOf, hb, hl']; rfl
  have e2 : rowE (hget hl) (.o b) E = true := by simp only [rowE, hb]; exact Nat.beq_refl E
  obtain ⟨us, k1, k2, k3⟩ := ownOf_owns e1 e2 hr (show (Lf.o b).rel w G (Okay F (hget hl) G) (G.r b) from ⟨rfl, by rw [h1]; rfl⟩)
  refine ⟨us, k1, k2, fun k => ?_⟩
  rw [h4 k, h1]
  show k = g ↔ some g = some k
  constructor
  · rintro rfl; rfl
  · intro q; cases q; rfl


/-- as ownSp_ok: the answer may also be a row that was built at once -/
theorem ownSp_okA {P : Program} {E : Env} (hE : E.Fine P) {f : FuncId} {fn : Func} (hf : P.funcs[f]? = some fn) {bw : Bool} {ts : List Ty} {T : TypeId} {t : Ty} {pre : dens ts → Prop} {res : dens ts → List t.den} (hfl : bw = true → t.flat = true)
    (h : ∀ xs, saneAll ts xs → pre xs → fnM E fn (argAV ts xs) [] (fun r hl => (∃ k, r = .v false [.o k] ∧ ((hget hl k = some (.row T t (res xs))) ∨ ∃ m cs, hget hl k = some (.arr T m cs) ∧ packN t m cs = some (res xs))) ∨ r = .v false [.nl] ∧ res xs = [])) : SpecOk P f (ownSp bw ts T t pre res) := by
  intro d args hp r hr hside
  unfold ownSp at hr
  split at hr
  · rename_i xs hxs
    cases hr
    refine ⟨.inr rfl, fun F G w vals hrep ha => ?_⟩
    refine Calls.mono (fnM_calls hE hf (h xs (args_sane _ _ _ (frOf_args (n := 0) hrep hxs ha)) hside) (frOf_rep bw hrep fn.ntmps) (frOf_args hrep hxs ha)) ?_
    rintro e w' ⟨v, r, hl', G', rfl, hk, k1, k2⟩
    have ho : Only (fun _ => False) w w' := k1.fr
    have hrow : ∃ vs, rdL w' (Okay (frOf bw F hp G w fn.ntmps) (hget hl') G') t (res xs) vs ∧ w'.ownsRow 0 T t.size v (res xs).length vs ∧ ∀ k, v.ownBlock = some k → w.heap.size ≤ k ∧ k < w'.heap.size ∧ ¬ Okay (frOf bw F hp G w fn.ntmps) (hget hl') G' k := by
      rcases hk with ⟨b, rfl, hb⟩ | ⟨rfl, hn⟩
      · have hv := AV.one_rel (x := .v false [.o b]) rfl k2
        have hown : ∃ d', ownOf (hget hl') t d' (.o b) = some (b, res xs) ∧ rowE (hget hl') (.o b) T = true := by
          rcases hb with hb | ⟨m, cs, hb, hpk⟩
          · refine ⟨b, ?_, by simp only [rowE, hb]; exact Nat.beq_refl T⟩
            simp only [ownOf, hb]
            rw [dif_pos trivial]
            rfl
          · exact ⟨b, by simp only [ownOf, hb, hpk]; rfl, by simp only [rowE, hb]; exact Nat.beq_refl T⟩
        obtain ⟨d', e1, e2⟩ := hown
        obtain ⟨vs, s1, s2, s3⟩ := ownOf_owns e1 e2 k1 hv
        refine ⟨vs, s1, s2, fun k hk => ?_⟩
        obtain ⟨o0, hb0, hfk⟩ := s3 k hk
        obtain ⟨q1, q2⟩ := k1.bd b _ hb0 k hfk
        refine ⟨q2.resolve_left id, q1, fun q => q.2 ⟨b, _, hb0, hfk⟩⟩
      · have hv := AV.one_rel (x := .v false [.nl]) rfl k2
        obtain rfl := (show v = _ from hv)
        rw [hn]
        exact ⟨[], rfl, World.ownsRow_nil _ _ _ _, fun k hk => by cases hk⟩
    obtain ⟨vs, s1, s2, s3⟩ := hrow
    obtain ⟨G2, g1, g2, g3⟩ := grow_step hrep d d v (fun k => v.ownBlock = some k) (.row T t (res xs))
      (fun k hk hl => absurd (s3 k hk).1 (by omega))
      (fun k hk => (s3 k hk).2.1)
      ⟨ho.os, ho.tape, ho.output, ho.size, fun k hk _ => ho.block k hk id⟩
      (fun A' G2 q1 q2 q3 q4 => by
        refine ⟨vs, ?_, by rw [q1]; exact s2, fun k => by rw [q1]; exact q2 k⟩
        cases hb : bw with
        | true =>
          clear s2 s3
          have hflat := hfl hb
          generalize res xs = l at s1
          induction l generalizing vs with
          | nil => exact s1
          | cons x l ih => obtain ⟨c, r, c1, c2, c3⟩ := s1; exact ⟨c, r, c1, flat_rd t x c hflat c2, ih r c3⟩
        | false =>
          refine rdL_mono (Nat.le_refl _) (fun b hb' hl => ⟨?_, rfl⟩) s1
          rcases Nat.lt_or_ge b w.heap.size with hlt | hge
          · exact q4.keepA b hlt (frOf_okay hrep hb hb')
          · exact q3 b hge hl (fun hk => (s3 b hk).2.2 hb'))
    exact ⟨v, rfl, G2, g1, g2, AV.rel_of ⟨g3.symm, owns_one s2⟩⟩
  · cases hr
end Go.Proofs.Ytgdlbpihkodeoaa
