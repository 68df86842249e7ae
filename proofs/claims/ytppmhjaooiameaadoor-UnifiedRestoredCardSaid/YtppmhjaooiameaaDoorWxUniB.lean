/- strings.Builder.Len as a spec; strconv.Itoa of one digit. -/
import Derived.Test.YtppmhjaooiameaaDoorWxBld
import Derived.Test.YtppmhjaooiameaaDoorWxBase
namespace Go.Proofs.YtppmhjaooiameaaDoor
open Go.RowKit
set_option maxRecDepth 20000
set_option linter.unusedSimpArgs false

set_option maxHeartbeats 2000000 in
set_option maxRecDepth 100000 in
theorem Len_bd (b : Nat) (p v : Value) (bs : List Value) (w : World) (hd : Bd b p v bs w) :
    Calls Tryd.prog 19 #[.pointer (some ⟨b, 0, none⟩)] w fun e w' => e = .returned (.int .i64 bs.length) ∧ w' = w := by
  obtain ⟨hbk, hown, -⟩ := hd
  have c1 : w.cell? ⟨b, 1, none⟩ = some v := by rw [Lib.cell_of_heap hbk]; rfl
  rcases hown.2 with ⟨rfl, hz⟩ | ⟨g, cap, cur, rfl, -⟩
  · rw [hz]
    go_enter Tryd.func19, Tryd.ntmps19
    go_wp2
    all_goals (go_ret; exact ⟨rfl, rfl⟩)
  · go_enter Tryd.func19, Tryd.ntmps19
    go_wp2
    all_goals (go_ret; exact ⟨rfl, rfl⟩)
def sp_BLen : SpecF := fun _ args hp => match args with
  | [.v false [.p b 0]] => (bldOf 48 5 (hp b)).map fun l => ⟨l.length ≤ 1000000000, .v false [.d (.int .i64) (l.length : Int)], [], []⟩
  | _ => none
def oneDigit (n : Int) : ByteArray := ⟨#[UInt8.ofNat (48 + n.toNat)]⟩
def sp_Itoa1 : SpecF := pureSp false [.int .i64] (fun (n', _) => 0 ≤ n' ∧ n' < 10) (fun (n', _) => .v false [.d .str (oneDigit n')])
theorem Itoa1_sp : SpFact 58 sp_Itoa1 := by
  refine ⟨⟨_, rfl, rfl, rfl, callsSp_ok (fun _ _ => rfl) ?_⟩, pureSp_loc _ _ _ _⟩
  rintro ⟨n, u⟩ w G A vals - ⟨h0, h1⟩ ha
  obtain ⟨v1, r1, rfl, q1, rfl⟩ := ha
  have q1 := AV.one_rel (x := .v false [.d (.int .i64) n]) rfl q1
  obtain ⟨q1, q1'⟩ := q1
  cases q1
  change Int at n
  replace h0 : 0 ≤ n := h0
  replace h1 : n < 10 := h1
  obtain ⟨m, rfl⟩ : ∃ m : Nat, n = m := ⟨n.toNat, by omega⟩
  refine Calls.mono (Tryd.strconv_Itoa_small m (by omega) w) ?_
  rintro e w' ⟨rfl, rfl⟩
  have e1 : Lib.decDigits m = [UInt8.ofNat (48 + m)] := by unfold Lib.decDigits; rw [dif_pos (by omega)]
  rw [e1]
  refine ⟨_, rfl, Only.refl _ _, AV.rel_of ⟨rfl, ?_⟩⟩
  show (1 : Nat) ≤ maxLen
  unfold maxLen
  decide
theorem BLen_ok : SpecOk Tryd.prog 19 sp_BLen := by
  intro d args hp r hr hside
  unfold sp_BLen at hr
  split at hr
  · rename_i b
    obtain ⟨l, hl, rfl⟩ := Option.map_eq_some_iff.1 hr
    refine ⟨.inl rfl, fun F G w vals hrep ha => ?_⟩
    obtain ⟨v1, r1, rfl, q1, q3⟩ := ha
    have q3 : r1 = [] := q3
    subst q3
    have q1 := AV.one_rel (x := .v false [.p b 0]) rfl q1
    cases hb : hp b with
    | none => rw [hb] at hl; cases hl
    | some ob =>
      rw [hb] at hl
      obtain ⟨g, p, v, h1, h2, h3, h4, h5, h6⟩ := sat_bd (bld_sat (hrep.sat b ob hb) hl)
      obtain ⟨g', k1, rfl⟩ := q1
      obtain rfl : g' = g := by have := k1.symm.trans h1; injection this with e1; injection e1 with e1; injection e1
      have hside : l.length ≤ 1000000000 := hside
      refine Calls.mono (Len_bd g' p v (bcs l) w ⟨h3, h4, h5⟩) ?_
      rintro e w' ⟨rfl, rfl⟩
      rw [show (bcs l).length = l.length from by unfold bcs; simp]
      refine ⟨_, rfl, G, Ext.refl _ _ _ _ Okay.apart, hrep, ⟨[_], ⟨_, [], rfl, ⟨rfl, ?_⟩, rfl⟩, rfl, fun _ => rfl⟩⟩
      show (-9223372036854775808 : Int) ≤ (l.length : Int) ∧ (l.length : Int) ≤ 9223372036854775807
      omega
  · cases hr
theorem BLen_sp : SpFact 19 sp_BLen := ⟨⟨Tryd.f19, rfl, rfl, rfl, BLen_ok⟩, fun d args hp hp' h => by
  unfold sp_BLen
  split
  · rw [h _ (by simp [AV.names, Lf.names])]
  · rfl⟩
/-- a fresh builder is a builder of no byte -/
theorem Wk.bldU {n : Nat} {sl : List SEnt} {hl : List HEnt} (b : Nat) {T e : TypeId} {l : List UInt8} (h : bldOf T e (hget hl b) = some l) : Wk n sl hl sl (.put b (.bld T e l) :: hl) := by
  intro F G a w hr
  cases hb : hget hl b with
  | none => rw [hb] at h; cases h
  | some ob =>
    rw [hb] at h
    obtain ⟨hx, hq⟩ := write_step (w' := w) hr.hp b ob (.bld T e l) hb (Only.refl _ _) (fun _ => bld_sat (hr.hp.sat b ob hb) h)
    have hh : hget (.put b (.bld T e l) :: hl) = upd (hget hl) b (some (.bld T e l)) := hget_app [.put b (.bld T e l)] hl
    have hok : Okay F (hget hl) G = Okay F (upd (hget hl) b (some (.bld T e l))) G := by
      funext k
      have : Foot (hget hl) G k ↔ Foot (upd (hget hl) b (some (.bld T e l))) G k := by
        constructor
        · rintro ⟨c, oc, q1, q2⟩
          by_cases hc : c = b
          · subst hc; exact ⟨c, _, upd_same _ _ _, q2⟩
          · exact ⟨c, oc, by rw [upd_ne _ _ hc]; exact q1, q2⟩
        · rintro ⟨c, oc, q1, q2⟩
          by_cases hc : c = b
          · subst hc; exact ⟨c, ob, hb, q2⟩
          · rw [upd_ne _ _ hc] at q1; exact ⟨c, oc, q1, q2⟩
      exact propext ⟨fun ⟨k1, k2⟩ => ⟨k1, fun k3 => k2 (this.2 k3)⟩, fun ⟨k1, k2⟩ => ⟨k1, fun k3 => k2 (this.1 k3)⟩⟩
    refine ⟨G, hr.df, hr.sz, hr.lm, fun k => ?_, by rw [hh]; exact hq⟩
    have := hr.sl k
    rw [hok, ← hh] at this
    exact this

end Go.Proofs.YtppmhjaooiameaaDoor
