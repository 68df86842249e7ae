/- Sx, part Z: more ways to weaken a state: a nil slice is an empty row of its own. -/
import Derived.Test.YtdpcbffmmndhcaaSxY
namespace Go.Proofs.Ytdpcbffmmndhcaa
open Go.RowKit

theorem Wk.trans {n : Nat} {s1 s2 s3 : List SEnt} {h1 h2 h3 : List HEnt} (a : Wk n s1 h1 s2 h2) (b : Wk n s2 h2 s3 h3) : Wk n s1 h1 s3 h3 := by
  intro F G c w h
  obtain ⟨G', h'⟩ := a F G c w h
  exact b F G' c w h'
theorem Wk.refl {n : Nat} {s : List SEnt} {h : List HEnt} : Wk n s h s h := fun _ G _ _ h => ⟨G, h⟩

/-- a slot that holds a nil slice holds a row of length 0 that is owned, with a name d that nothing else has -/
theorem Wk.nilrow {n : Nat} {sl : List SEnt} {hl : List HEnt} (t d : Nat) (E : TypeId) (ty : Ty) (h : look sl t = .v false [.nl]) :
    Wk n sl hl (.put t (.v false [.o d]) :: .scr d :: sl) (.put d (.row E ty []) :: .scr d d :: hl) := by
  intro F G a w hr
  obtain ⟨G', g1, g2, g3⟩ := grow_step (w' := w) hr.hp d d (.slice none 0 0) (fun _ => False) (.row E ty []) (fun _ hk => hk.elim) (fun _ hk => hk.elim) (Only.refl _ _)
    (fun A' G' q1 q2 _ _ => ⟨[], rfl, by rw [q1]; exact World.ownsRow_nil _ _ _ _, fun k => by rw [q1, q2]; exact ⟨fun hh => hh.elim, fun hh => by cases hh⟩⟩)
  have hh : hget (.put d (.row E ty []) :: .scr d d :: hl) = upd (scrH (hget hl) d d) d (some (.row E ty [])) := hget_app [.put d (.row E ty []), .scr d d] hl
  refine ⟨G', hr.df, hr.sz, hr.lm, fun k => ?_, by rw [hh]; exact g2⟩
  rw [hh, look_put]
  by_cases hk : k = t
  · subst hk
    rw [upd_same]
    have := hr.sl k
    rw [h] at this
    have := AV.one_rel (x := .v false [.nl]) rfl this
    obtain hv := (show vl F a k = _ from this)
    exact AV.rel_of ⟨by rw [hv, g3], by rw [hv]; rfl⟩
  · rw [upd_ne _ _ hk]
    exact g1.avS (hr.sl k)
/-- a contract that is known in another way -/
theorem callsSp_ok {P : Program} {f : FuncId} {bw : Bool} {ts : List Ty} {pre : dens ts → Prop} {res : dens ts → AV} (hpl : ∀ xs, pre xs → (res xs).plain bw = true)
    (h : ∀ xs w (G : Gh) (A : Nat → Prop) vals, saneAll ts xs → pre xs → relAs w G A (argAV ts xs) vals → Calls P f vals.toArray w fun e w' => ∃ v, e = .returned v ∧ Only (fun _ => False) w w' ∧ (res xs).rel w' G A v) : SpecOk P f (pureSp bw ts pre res) := by
  intro d args hp r hr hside
  unfold pureSp at hr
  split at hr
  · rename_i xs hxs
    cases hr
    refine ⟨.inl rfl, fun F G w vals hrep ha => ?_⟩
    refine Calls.mono (h xs w G _ vals (args_sane _ _ _ (frOf_args (n := 0) hrep hxs ha)) hside (frOf_args (n := 0) hrep hxs ha)) ?_
    rintro e w' ⟨v, rfl, k1, k2⟩
    obtain ⟨m1, m2⟩ := hrep.after k1
    exact ⟨v, rfl, G, m2, m1, plain_av (fun hb t x cs hh => Ty.rd_mono (Nat.le_refl _) (fun b hb' _ => ⟨frOf_okay hrep hb hb', rfl⟩) t x cs hh) (hpl xs hside) k2⟩
  · cases hr
/-- a contract that is known in another way, with a row as the answer -/
theorem callsOwn_ok {P : Program} {f : FuncId} {bw : Bool} {ts : List Ty} {T : TypeId} {t : Ty} {pre : dens ts → Prop} {res : dens ts → List t.den} (hfl : t.flat = true)
    (h : ∀ xs w (G : Gh) (A : Nat → Prop) vals, saneAll ts xs → pre xs → relAs w G A (argAV ts xs) vals → Calls P f vals.toArray w fun e w' => ∃ v vs, e = .returned v ∧ Below w.heap.size w w' ∧ rdL w' (fun _ => False) t (res xs) vs ∧ w'.ownsRow w.heap.size T t.size v (res xs).length vs) : SpecOk P f (ownSp bw ts T t pre res) := by
  intro d args hp r hr hside
  unfold ownSp at hr
  split at hr
  · rename_i xs hxs
    cases hr
    refine ⟨.inr rfl, fun F G w vals hrep ha => ?_⟩
    refine Calls.mono (h xs w G _ vals (args_sane _ _ _ (frOf_args (n := 0) hrep hxs ha)) hside (frOf_args (n := 0) hrep hxs ha)) ?_
    rintro e w' ⟨v, vs, rfl, ho, s1, s2⟩
    have hge : ∀ k, v.ownBlock = some k → w.heap.size ≤ k := by
      intro k hk
      rcases s2.2 with ⟨rfl, _⟩ | ⟨g, cap, cur, rfl, hg, _⟩
      · cases hk
      · cases hk; exact hg
    have s3 := owns_low s2 (Nat.zero_le _)
    obtain ⟨G2, g1, g2, g3⟩ := grow_step hrep d d v (fun k => v.ownBlock = some k) (.row T t (res xs))
      (fun k hk hl => absurd (hge k hk) (by omega))
      (fun k hk => owns_foot s3 hk)
      ⟨ho.os, ho.tape, ho.output, ho.size, fun k hk _ => ho.block k hk⟩
      (fun A' G2 q1 q2 q3 q4 => by
        refine ⟨vs, ?_, by rw [q1]; exact s3, fun k => by rw [q1]; exact q2 k⟩
        clear s2 s3 hge
        generalize res xs = l at s1
        induction l generalizing vs with
        | nil => exact s1
        | cons x l ih => obtain ⟨c, r, c1, c2, c3⟩ := s1; exact ⟨c, r, c1, flat_rd t x c hfl c2, ih r c3⟩)
    exact ⟨v, rfl, G2, g1, g2, AV.rel_of ⟨g3.symm, owns_one s3⟩⟩
  · cases hr
theorem rdL_strs {w : World} {A : Nat → Prop} : ∀ {l : List ByteArray} {vs : List Value}, rdL w A .str l vs → vs = l.map Value.string
  | [], vs, h => h
  | x :: xs, vs, h => by
    obtain ⟨c, r, rfl, h1, h2⟩ := h
    rw [rdL_strs h2, h1.1]
    rfl
theorem strs_of {w : World} {G : Gh} {A : Nat → Prop} {l : List ByteArray} {v : Value} (h : (AV.v false [.d (.slice .str) l]).rel w G A v) : Strs w v l := by
  have h : (Ty.slice .str).rd w A l [v] := AV.one_rel (x := .v false [.d (.slice .str) l]) rfl h
  have hs := rd_sane (.slice .str) l _ h
  obtain ⟨vs, h1, h2⟩ := rd_reads h
  rw [rdL_strs h1] at h2
  exact Strs.of h2 hs.2
end Go.Proofs.Ytdpcbffmmndhcaa
