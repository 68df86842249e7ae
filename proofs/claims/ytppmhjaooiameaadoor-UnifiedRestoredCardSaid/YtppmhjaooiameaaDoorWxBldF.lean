/- Functions that write into a builder that is handed to them. -/
import Derived.Test.YtppmhjaooiameaaDoorWxBld
namespace Go.Proofs.YtppmhjaooiameaaDoor
open Go.RowKit
set_option maxRecDepth 20000

/-- a function whose first argument is a builder: what it answers, what is in the builder behind it -/
def bldSp (ts : List Ty) (pre : List UInt8 → dens ts → Prop) (res : dens ts → AV) (up : List UInt8 → dens ts → List UInt8) : SpecF := fun _ args hp => match args with
  | .v false [.p b 0] :: aas => match bldOf 48 5 (hp b), argsOf (fun _ => none) ts aas with
    | some l, some ys => some ⟨pre l ys, res ys, [.put b (.bld 48 5 (up l ys))], []⟩
    | _, _ => none
  | _ => none
theorem bldSp_ok {P : Program} {E : Env} (hE : E.Fine P) {f : FuncId} {fn : Func} (hf : P.funcs[f]? = some fn) {ts : List Ty} {pre : List UInt8 → dens ts → Prop} {res : dens ts → AV} {up : List UInt8 → dens ts → List UInt8} (hpl : ∀ ys, (res ys).plain true = true)
    (h : ∀ l ys, saneAll ts ys → pre l ys → fnB E fn (.v false [.p RT 0] :: argAV ts ys) [.mark, .put 0 (.v false [.p RT 0])] [.put RT (.bld 48 5 l)]
      (fun r sl hl => r = res ys ∧ look sl SUS = .v false [.p RT 0] ∧ hget hl RT = some (.bld 48 5 (up l ys)))) : SpecOk P f (bldSp ts pre res up) := by
  intro d args hp r hr hside
  unfold bldSp at hr
  split at hr
  · rename_i b aas
    split at hr
    · rename_i l ys hl hys
      cases hr
      refine ⟨.inl rfl, fun F G w vals hrep ha => ?_⟩
      obtain ⟨v0, r0, rfl, a1, a2⟩ := ha
      obtain ⟨g0, b1, b2⟩ := AV.one_rel (x := .v false [.p b 0]) rfl a1
      cases hb : hp b with
      | none => rw [hb] at hl; cases hl
      | some ob =>
      rw [hb] at hl
      obtain ⟨g, p, v, s1, s2, s3, s4, s5, s6⟩ := bld_sat (hrep.sat b ob hb) hl
      have hg : g0 = g := by unfold boxAt at b1 s1; rw [b1] at s1; cases s1; rfl
      subst hg
      let F' : Fr := ⟨w, fun k => Okay F hp G k ∨ G.f b k, G.f b, fun _ => G.r b⟩
      let G1 : Gh := ⟨upd G.r RT (G.r b), upd G.f RT (G.f b)⟩
      have e1 : G1.r RT = G.r b := by show upd G.r RT (G.r b) RT = G.r b; exact upd_same _ _ _
      have e2 : G1.f RT = G.f b := by show upd G.f RT (G.f b) RT = G.f b; exact upd_same _ _ _
      have hp1 : ∀ c oc, hget [.put RT (.bld 48 5 l)] c = some oc → c = RT ∧ oc = .bld 48 5 l := by
        intro c oc hc
        unfold hget at hc
        by_cases e : c = RT
        · subst e; rw [beq_self] at hc; cases hc; exact ⟨rfl, rfl⟩
        · rw [beq_ne e] at hc; cases hc
      have hfoot : ∀ k, Foot (hget [.put RT (.bld 48 5 l)]) G1 k → G.f b k := by
        rintro k ⟨c, oc, h1, h2⟩
        obtain ⟨rfl, -⟩ := hp1 c oc h1
        rw [e2] at h2
        exact h2
      have hA : ∀ k, Okay F hp G k → Okay F' (hget [.put RT (.bld 48 5 l)]) G1 k := fun k hk => ⟨.inl (.inl hk), fun hq => hk.2 ⟨b, _, hb, hfoot k hq⟩⟩
      have hrep1 : RepH F' (hget [.put RT (.bld 48 5 l)]) G1 w := by
        refine ⟨fun c oc hc => ?_, fun c1 c2 o1 o2 hne h1 h2 => ?_, fun c oc hc k hk => ?_, Only.refl _ _, fun k hk => .inr hk, fun w' ho => hrep.tb w' ⟨ho.os.trans hrep.fr.os, ho.tape.trans hrep.fr.tape, ho.output.trans hrep.fr.output, Nat.le_trans hrep.fr.size ho.size, fun k hk hs => (ho.block k (Nat.lt_of_lt_of_le hk hrep.fr.size) (fun hq => by
            have := (hrep.bd b _ hb k hq).2
            rcases this with q | q
            · exact hs q
            · omega)).trans (hrep.fr.block k hk hs)⟩⟩
        · obtain ⟨rfl, rfl⟩ := hp1 c oc hc
          exact ⟨g0, p, v, e1.trans s1, s2, s3, s4, s5, fun k => by rw [e2]; exact s6 k⟩
        · obtain ⟨rfl, -⟩ := hp1 c1 o1 h1
          obtain ⟨rfl, -⟩ := hp1 c2 o2 h2
          exact absurd rfl hne
        · obtain ⟨rfl, -⟩ := hp1 c oc hc
          rw [e2] at hk
          exact ⟨(hrep.bd b _ hb k hk).1, .inl hk⟩
      have hptr : ∀ A, (AV.v false [.p RT 0]).rel w G1 A (G.r b) := fun A => AV.rel_of ⟨g0, e1.trans s1, s1⟩
      have hargs : relAs w G1 (Okay F' (hget [.put RT (.bld 48 5 l)]) G1) (argAV ts ys) r0 := argsOf_rel hrep (fun k hk => hA k hk) (.inr rfl) ts aas ys r0 hys a2
      have hsane : saneAll ts ys := args_sane _ _ _ hargs
      refine Calls.mono (fnB_calls hE hf (h l ys hsane hside) hrep1 (fun t ht => ?_) (fun t ht => ?_) (vals := v0 :: r0) ⟨v0, r0, rfl, ?_, hargs⟩) ?_
      · rw [look_mark, if_pos ht]
      · rw [look_mark, if_neg (by omega)]
        show (bif Nat.beq (t - SUS) 0 then (AV.v false [.p RT 0]) else .un).rel _ _ _ _
        cases Nat.beq (t - SUS) 0
        · trivial
        · exact hptr _
      · have : v0 = G.r b := by rw [b2]; exact s1.symm
        rw [this]; exact hptr _
      rintro e w' ⟨v', r, sl', hl', G', rfl, ⟨rfl, z1, z2⟩, m1, m2, m3⟩
      have hgb : boxAt G' RT g0 := by
        have := m2 SUS (Nat.le_refl _)
        rw [z1] at this
        obtain ⟨g', n1, n2⟩ := AV.one_rel (x := .v false [.p RT 0]) rfl this
        have n2 : G.r b = .pointer (some ⟨g', 0, none⟩) := n2
        unfold boxAt at s1
        rw [s1] at n2
        cases n2
        exact n1
      obtain ⟨g', p', u', t1, t2, t3, t4, t5, t6⟩ := m1.sat RT _ z2
      have hg' : g' = g0 := by unfold boxAt at hgb t1; rw [hgb] at t1; cases t1; rfl
      subst hg'
      have hbd : ∀ k, k = g' ∨ u'.ownBlock = some k → k < w'.heap.size ∧ (G.f b k ∨ w.heap.size ≤ k) := fun k hk => m1.bd RT _ z2 k ((t6 k).2 hk)
      obtain ⟨G2, x1, x2⟩ := same_step hrep b ob hb (fun k => k = g' ∨ u'.ownBlock = some k) (.bld 48 5 (up l ys))
        (fun k hk hlt => by rcases (hbd k hk).2 with q | q; exact q; omega) (fun k hk => (hbd k hk).1) m1.fr (fun A' G2 hr hf => ⟨g', p', u', hr.trans s1, t2, t3, t4, t5, hf⟩)
      exact ⟨v', rfl, G2, x1, x2, plain_av (fl := true) (fun q => by cases q) (hpl ys) m3⟩
    · cases hr
  · cases hr
theorem bldSp_loc (ts : List Ty) (pre : List UInt8 → dens ts → Prop) (res : dens ts → AV) (up : List UInt8 → dens ts → List UInt8) : SpLoc (bldSp ts pre res up) := by
  intro d args hp hp' h
  unfold bldSp
  cases args with
  | nil => rfl
  | cons a aas =>
    cases a with
    | v g ls =>
      cases g with
      | true => rfl
      | false =>
        cases ls with
        | nil => rfl
        | cons l r =>
          cases r with
          | cons _ _ => cases l with
            | p b off => cases off <;> rfl
            | _ => rfl
          | nil =>
            cases l with
            | p b off =>
              cases off with
              | succ _ => rfl
              | zero => simp only [h b (by simp [AV.names, Lf.names])]
            | _ => rfl
    | _ => rfl
end Go.Proofs.YtppmhjaooiameaaDoor
