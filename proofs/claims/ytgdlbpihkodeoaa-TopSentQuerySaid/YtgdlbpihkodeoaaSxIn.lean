/- Sx inside a round of a range over a function: what the machine shows of a text holds there too. -/
import Derived.Test.YtgdlbpihkodeoaaFwE
import Derived.RangeFuncCalls
import Derived.TacticsIn
import Derived.OrdersIn
namespace Go.Proofs.Ytgdlbpihkodeoaa
open Go.RowKit

def noDef (o : Oper) : Bool := match o.op with
  | .defer _ => false
  | _ => true
theorem wp_in {P : Program} {o : Oper} {a : Act} {w : World} {K : Act → World → Prop} {Q : Exit → Act → World → Prop} (l n : Nat) (hd : noDef o = true) (h : o.wp P a w K Q) : o.wpIn (Fence.wide.inRound l) n P a w K Q := by
  refine ⟨fun _ _ => trivial, ?_⟩
  rw [Oper.semAt_eq _ _ _ (fun c e => by unfold noDef at hd; rw [e] at hd; cases hd)]
  unfold Oper.wp at h
  generalize (execOp a.eval o).run P w = r at *
  cases r with
  | ok x w' =>
    cases x <;> simp only [Oper.uponIn, Oper.upon] at h ⊢ <;>
      first
        | exact h
        | exact ⟨fun e => (by cases e), CallsIn.inRound l (callsIn_wide.2 h)⟩
        | exact ⟨fun e => (by cases e), fun c cs _ => let ⟨v, w2, r, s⟩ := h c cs; ⟨v, w2, r, stepsIn_wide.2 s⟩⟩
  | halt x w' => cases x <;> simp only [Oper.uponIn, Oper.upon] at h ⊢ <;> exact h
theorem wpAny_in {P : Program} {ops : Array Oper} {Q : Exit → Act → World → Prop} (l n : Nat) (hd : ∀ (i : Nat) o, ops[i]? = some o → noDef o = true) (hq : ¬ LetsOut Q) : ∀ (fuel : Nat) (L : Array Bool) (a : Act) (w : World), wpAny P .any ops Q fuel L a w → wpAnyIn (Fence.wide.inRound l) n P .any ops Q fuel L a w := by
  intro fuel
  induction fuel with
  | zero => intro L a w h; exact h
  | succ fuel ih =>
    intro L a w h
    refine ⟨h.1, fun i hi => ?_⟩
    have h2 := h.2 i hi
    unfold wpOp at h2
    unfold wpOpIn
    cases ho : ops[i]? with
    | none => rw [ho] at h2; exact ih _ _ _ h2
    | some o =>
      rw [ho] at h2
      dsimp only at h2 ⊢
      split
      · rename_i hw
        rw [if_pos hw] at h2
        rcases h2 with h2 | ⟨-, h2⟩
        · exact Oper.wpIn_mono (fun a w h => ih _ a w h) (wp_in l n (hd i o ho) h2)
        · exact absurd h2 hq
      · rename_i hw
        rw [if_neg hw] at h2
        exact ⟨fun _ _ => trivial, ih _ _ _ h2⟩
theorem wpList_in {P : Program} {ops : Array Oper} {Q : Exit → Act → World → Prop} (l n : Nat) (hq : ¬ LetsOut Q) : ∀ (r : List Oper) (a : Act) (w : World), r.all noDef = true → wpList P ops Q r a w → wpListIn (Fence.wide.inRound l) n P ops Q r a w
  | [], _, _, _, h => h
  | o :: r, a, w, hd, h => by
    rw [List.all_cons] at hd
    obtain ⟨d1, d2⟩ := Bool.and_eq_true_iff.1 hd
    unfold wpList at h
    unfold wpListIn
    split
    · rename_i hw
      rw [if_pos hw] at h
      rcases h with h | ⟨-, h⟩
      · exact Oper.wpIn_mono (fun a w h => wpList_in l n hq r a w d2 h) (wp_in l n d1 h)
      · exact absurd h hq
    · rename_i hw
      rw [if_neg hw] at h
      exact ⟨fun _ _ => trivial, wpList_in l n hq r _ w d2 h⟩
theorem all_def {ops : Array Oper} (h : ∀ (k : Nat) x, ops[k]? = some x → noDef x = true) : ops.toList.all noDef = true := by
  rw [List.all_eq_true]
  intro x hx
  obtain ⟨k, hk, rfl⟩ := List.mem_iff_getElem.1 hx
  exact h k _ (by rw [← Array.getElem?_toList, List.getElem?_eq_getElem hk])
theorem def_all {ops : Array Oper} (h : ops.toList.all noDef = true) (k : Nat) (x : Oper) (hk : ops[k]? = some x) : noDef x = true := by
  rw [List.all_eq_true] at h
  exact h x (List.mem_of_getElem? (by rw [Array.getElem?_toList]; exact hk))
theorem qc_out {F : Fr} {n : Nat} {Q : KX} : ¬ LetsOut (QC F n Q) := fun ⟨_, _, h⟩ => h
/-- a text without defer -/
def noDefC : Code → Bool
  | .region _ ops _ => ops.toList.all noDef
  | .seq x y => noDefC x && noDefC y
  | .cond _ x y => noDefC x && noDefC y
  | .block _ x => noDefC x
  | .loop x => noDefC x
  | .rangeFunc _ _ _ _ => false
  | _ => true
theorem hd1 {a b : Bool} (h : (a && b) = true) : a = true := (Bool.and_eq_true_iff.1 h).1
theorem hd2 {a b : Bool} (h : (a && b) = true) : b = true := (Bool.and_eq_true_iff.1 h).2
theorem region_lastIn (l m : Nat) {P : Program} {E : Env} (hE : E.Ok P) (hs : ∀ f s, E.sp f = some s → SpLoc s) (hm : P.follows .mixedOrders = true) {n id : Nat} {ops : Array Oper} {i : List Oper} {o : Oper} (hsp : splitL ops.toList = some (i, o)) (hwt : waits i o = true)
    {s0 sN : Nat → AV} {h0 hN : Nat → Option Ob} {L : List LE} (hc : Chain E n i.toArray i L s0 h0 sN hN) (hB : niOk i.toArray s0 h0 L (befs i []) = true) {F : Fr} {Q : Exit → Act → World → Prop}
    (hQ : ∀ G a w, Rep F n sN hN G a w → o.wp P a w (fun a w => Q .normal a w) Q ∨ (o.asks P a w ∧ LetsOut Q)) (hdf : ∀ (k : Nat) x, ops[k]? = some x → noDef x = true) (hlq : ¬ LetsOut Q) {G : Gh} {a : Act} {w : World} (h : Rep F n s0 h0 G a w) : (Code.region id ops true).wpIn (Fence.wide.inRound l) m P Q a w := by
  have e : ops = i.toArray.push o := by
    apply Array.toList_inj.1
    rw [splitL_is hsp]; simp
  subst e
  unfold waits at hwt
  obtain ⟨hwt, w4⟩ := Bool.and_eq_true_iff.1 hwt
  obtain ⟨hwt, w3⟩ := Bool.and_eq_true_iff.1 hwt
  obtain ⟨w1, w2⟩ := Bool.and_eq_true_iff.1 hwt
  rw [List.all_eq_true] at w1 w3 w4
  have hlen : i.length = L.length := by
    have : ∀ (l : List Oper) (es : List LE) (s : Nat → AV) (h : Nat → Option Ob), Chain E n i.toArray l es s h sN hN → l.length = es.length := by
      intro l
      induction l with
      | nil => intro es s h hh; cases es with
        | nil => rfl
        | cons e es => exact hh.elim
      | cons o l ih => intro es s h hh; cases es with
        | nil => exact hh.elim
        | cons e es => simp [ih es _ _ hh.2]
    exact this _ _ _ _ hc
  have hni := niOk_spec (by simp [hlen]) hB
  have hnone : lD (Array.replicate i.toArray.size false) = fun _ => false := by
    funext j
    unfold lD
    rw [Array.getElem?_replicate]
    split <;> rfl
  refine wpIn_region_any hm (wpAny_in l m hdf hlq _ _ _ _ ?_)
  have er : Array.replicate (i.toArray.push o).size false = (Array.replicate i.toArray.size false).push false := by
    rw [Array.size_push, Array.replicate_succ]
  rw [er, Array.size_push]
  refine wpAny_last (Q' := fun e a w => match e with | .normal => ∃ G, Rep F n sN hN G a w | e => Q e a w) (fun k x hk => ?_) (by simpa using w2) (fun k x hk j hj => hni.dir k x hk j hj) (fun j hj => ?_) (fun j hj => ?_) (fun e a w hne hq => ?_) (fun a w hq => ?_) _ _ _ _ (by simp) (fun k x hk hl => by rw [hnone] at hl; cases hl) ?_
  · have : x ∈ i := by
      obtain ⟨h1, h2⟩ := Array.getElem?_eq_some_iff.1 hk
      rw [← h2]; simp
    simpa using w1 x this
  · have hj' : j < i.length := by simpa using hj
    have := w4 j (List.mem_range.2 hj')
    rcases Bool.or_eq_true_iff.1 this with q | q
    · exact .inl (inL_iff.1 q)
    · obtain ⟨x, hx, hxj⟩ := List.any_eq_true.1 q
      obtain ⟨k, hk, hk'⟩ := List.mem_iff_getElem.1 hx
      exact .inr ⟨k, x, by rw [List.getElem?_toArray, List.getElem?_eq_getElem hk, hk'], inL_iff.1 hxj⟩
  · have : j + 1 ≤ i.length := Nat.le_of_ble_eq_true (w3 j hj)
    rw [List.size_toArray]; exact this
  · cases e with
    | normal => exact absurd rfl hne
    | _ => exact hq
  · obtain ⟨G', hr'⟩ := hq
    exact hQ G' a w hr'
  · refine drawn_any hE hs hc hB (fun G a w hr => ⟨G, hr⟩) _ _ G a _ (by simp) ?_ (fun k hk => by rw [hnone] at hk; cases hk) ?_
    · rw [Array.toList_replicate]
      exact Nat.le_trans List.count_le_length (by simp)
    · rw [hnone, SD_none, HD_none]
      exact h.drew
/-- a region, drawn or not -/
theorem region_wpIn (l m : Nat) {P : Program} {E : Env} (hE : E.Ok P) (hs : ∀ f s, E.sp f = some s → SpLoc s) (hm : P.follows .mixedOrders = true) {n id : Nat} {ops : Array Oper} {dr : Bool} {s0 sN : Nat → AV} {h0 hN : Nat → Option Ob} {L : List LE} (hc : Chain E n ops ops.toList L s0 h0 sN hN)
    (hB : dr = true → niOk ops s0 h0 L (befs ops.toList []) = true) {F : Fr} {Q : Exit → Act → World → Prop} (hQ : ∀ G a w, Rep F n sN hN G a w → Q .normal a w) (hdf : ∀ (k : Nat) x, ops[k]? = some x → noDef x = true) (hlq : ¬ LetsOut Q) {G : Gh} {a : Act} {w : World} (h : Rep F n s0 h0 G a w) : (Code.region id ops dr).wpIn (Fence.wide.inRound l) m P Q a w := by
  cases dr with
  | false => exact wpIn_region_list (wpList_in l m hlq _ _ _ (all_def hdf) (hc.list hE hQ _ _ _ _ G a w h))
  | true =>
    have hnone : lD (Array.replicate ops.size false) = fun _ => false := by
      funext j
      unfold lD
      rw [Array.getElem?_replicate]
      split <;> rfl
    refine wpIn_region_any hm (wpAny_in l m hdf hlq _ _ _ _ <| drawn_any hE hs hc (hB rfl) hQ _ _ G a _ (by simp) ?_ (fun i hi => by rw [hnone] at hi; cases hi) ?_)
    · rw [Array.toList_replicate]
      exact Nat.le_trans List.count_le_length (by simp)
    · rw [hnone, SD_none, HD_none]
      exact h.drew
theorem mx_wpIn (l m : Nat) {P : Program} {C : CallH} {E : Env} (hE : E.Fine P) {n : Nat} (hC : CallOk P n C) (hm : CMono C) {F : Fr} : ∀ (c : Code), noDefC c = true → ∀ (sl : List SEnt) (hl : List HEnt) (Q : KX), mx C E n c sl hl Q → ∀ G a w, Rep F n (look sl) (hget hl) G a w → c.wpIn (Fence.wide.inRound l) m P (QC F n Q) a w
  | .skip, hd, sl, hl, Q, h, G, a, w, hr => wpIn_skip ⟨sl, hl, G, hr, h⟩
  | .region id ops dr, hd, sl, hl, Q, h, G, a, w, hr => by
    cases dr with
    | true =>
      replace h : (match lastC E ops with
        | some (i, o) => mOps E noC n true i.toArray i [] sl hl fun log sl' hl' => Run <| Drawn (niOk i.toArray (look sl) (hget hl) log (befs i [])) (mOps E C n false #[o] [o] [] sl' hl' fun _ s t => Q .normal s t)
        | none => mOps E noC n true ops ops.toList [] sl hl fun log sl' hl' => Run <| Drawn (niOk ops (look sl) (hget hl) log (befs ops.toList [])) (Q .normal sl' hl')) := h
      split at h
      · rename_i i o hl0
        obtain ⟨u1, u2⟩ := lastC_is hl0
        obtain ⟨es, sl', hl', k1, k2⟩ := exOps_chain i [] sl hl (mOps_ok noC_mono h) _ _ rfl rfl
        obtain ⟨q1, q2⟩ := k2.is
        refine region_lastIn l m hE.ok hE.loc hE.mix u1 u2 k1 (by simpa using q1) (fun G' a' w' hr' => ?_) (def_all hd) qc_out hr
        have := exOps_list (F := F) (Q := QC F n Q) hE.ok hC (ops := #[o]) (fun _ s t G2 a2 w2 hq hr2 => ⟨s, t, G2, hr2, hq⟩) _ _ _ _ (mOps_ok hm q2) G' a' w' hr'
        have hw : Region.wanted o (yielded #[o] a'.tmps) = true := by
          unfold waits at u2
          obtain ⟨u2, -⟩ := Bool.and_eq_true_iff.1 u2
          obtain ⟨u2, -⟩ := Bool.and_eq_true_iff.1 u2
          obtain ⟨-, u2⟩ := Bool.and_eq_true_iff.1 u2
          unfold Region.wanted
          rw [Option.isNone_iff_eq_none.1 u2]
        simp only [wpList, hw, if_true] at this
        exact this
      obtain ⟨es, sl', hl', k1, k2⟩ := exOps_chain ops.toList [] sl hl (mOps_ok noC_mono h) _ _ rfl rfl
      obtain ⟨q1, q2⟩ := k2.is
      exact region_wpIn l m hE.ok hE.loc hE.mix k1 (fun _ => by simpa using q1) (fun G' a' w' hr' => ⟨sl', hl', G', hr', q2⟩) (def_all hd) qc_out hr
    | false =>
      have h : mOps E C n false ops ops.toList [] sl hl fun _ sl' hl' => Q .normal sl' hl' := h
      exact wpIn_region_list (wpList_in l m qc_out _ _ _ hd <| exOps_list hE.ok hC (fun _ sl' hl' G' a' w' hq hr' => ⟨sl', hl', G', hr', hq⟩) _ _ _ _ (mOps_ok hm h) G a w hr)
  | .seq x y, hd, sl, hl, Q, h, G, a, w, hr => by
    refine wpIn_seq (wpIn_mono (mx_wpIn l m hE hC hm x (hd1 hd) sl hl _ h G a w hr) fun e a' w' hq => ?_)
    cases e with
    | normal => obtain ⟨s, t, G', h1, h2⟩ := hq; exact mx_wpIn l m hE hC hm y (hd2 hd) s t Q h2 G' a' w' h1
    | exit j => exact hq
    | ret => exact hq
    | goto l => exact hq.elim
    | panic c => exact hq.elim
    | outgrown => exact hq.elim
  | .cond c x y, hd, sl, hl, Q, h, G, a, w, hr => by
    replace h : mxCond c x y (mx C E n x) (mx C E n y) sl hl Q := h
    unfold mxCond at h
    split at h
    · rename_i b hone
      have hv : a.eval c = .bool b := by
        have := AV.one_rel hone (evA_rel hr.sl c)
        simpa using (show [a.eval c] = [.bool b] from this)
      split at h
      · rename_i t
        have hb := AV.one_eq hone
        have hb : look sl t = .v false [.d .bool b] := sg_eq hb (by intro e; cases e)
        refine wpIn_cond_split hv (fun e => mx_wpIn l m hE hC hm x (hd1 hd) _ hl Q (h.is.t e) G a w ?_) (fun e => mx_wpIn l m hE hC hm y (hd2 hd) _ hl Q (h.is.f e) G a w ?_)
        · rw [put_same (by rw [hb, e])]; exact hr
        · rw [put_same (by rw [hb, e])]; exact hr
      · exact wpIn_cond_split hv (fun e => mx_wpIn l m hE hC hm x (hd1 hd) sl hl Q (h.is.t e) G a w hr) (fun e => mx_wpIn l m hE hC hm y (hd2 hd) sl hl Q (h.is.f e) G a w hr)
    · exact h.elim
  | .block id x, hd, sl, hl, Q, h, G, a, w, hr => by
    refine wpIn_block (wpIn_mono (mx_wpIn l m hE hC hm x hd sl hl _ h G a w hr) fun e a' w' hq => ?_)
    cases e with
    | normal => exact hq
    | exit j =>
      obtain ⟨s, t, G', h1, h2⟩ := hq
      show if j = id then QC F n Q .normal a' w' else QC F n Q (.exit j) a' w'
      by_cases hj : j = id
      · rw [if_pos hj]
        subst hj
        simp only [blockQ, beq_self] at h2
        exact ⟨s, t, G', h1, h2⟩
      · rw [if_neg hj]
        simp only [blockQ, beq_ne hj] at h2
        exact ⟨s, t, G', h1, h2⟩
    | ret => exact hq
    | goto l => exact hq.elim
    | panic c => exact hq.elim
    | outgrown => exact hq.elim
  | .loop x, hd, sl, hl, Q, h, G, a, w, hr => by
    replace h : Run (LoopG C E n x sl hl (mx C E n x) Q) := h
    obtain ⟨R, ⟨m0, s0, t0, w0, r0⟩, hround⟩ := h.is.is
    let I : Nat → Act → World → Prop := fun m a w => ∃ s t G, R m s t ∧ Rep F n (look s) (hget t) G a w
    have hI0 : ∃ m, I m a w := by
      obtain ⟨G', hr'⟩ := w0 F G a w hr
      exact ⟨m0, s0, t0, G', r0, hr'⟩
    let μ : Act → World → Nat := fun a w => Classical.epsilon fun m => I m a w ∧ ∀ m', I m' a w → m ≤ m'
    have hmin : ∀ a w, (∃ m, I m a w) → I (μ a w) a w ∧ ∀ m', I m' a w → μ a w ≤ m' := by
      intro a w hex
      have : ∃ m, I m a w ∧ ∀ m', I m' a w → m ≤ m' := by
        obtain ⟨m, hm⟩ := hex
        induction m using Nat.strongRecOn with
        | _ m ih =>
          by_cases hlt : ∃ m', m' < m ∧ I m' a w
          · obtain ⟨m', h1, h2⟩ := hlt
            exact ih m' h1 h2
          · exact ⟨m, hm, fun m' hm' => Nat.le_of_not_lt fun hh => hlt ⟨m', hh, hm'⟩⟩
      exact Classical.epsilon_spec this
    refine wpIn_loop (fun a w => ∃ m, I m a w) μ hI0 fun a1 w1 hex => ?_
    obtain ⟨⟨s, t, G1, r1, rep1⟩, hle⟩ := hmin a1 w1 hex
    refine wpIn_mono (mx_wpIn l m hE hC hm x hd s t _ (hround _ s t r1) G1 a1 w1 rep1) fun e a' w' hq => ?_
    cases e with
    | normal =>
      obtain ⟨s2, t2, G2, rep2, m', s3, t3, hlt, hw, r3⟩ := hq
      obtain ⟨G3, rep3⟩ := hw F G2 a' w' rep2
      have hi : I m' a' w' := ⟨s3, t3, G3, r3, rep3⟩
      exact ⟨⟨m', hi⟩, Nat.lt_of_le_of_lt ((hmin a' w' ⟨m', hi⟩).2 m' hi) hlt⟩
    | exit j => exact hq
    | ret => exact hq
    | goto l => exact hq.elim
    | panic c => exact hq.elim
    | outgrown => exact hq.elim
  | .exit id, hd, sl, hl, Q, h, G, a, w, hr => wpIn_exit ⟨sl, hl, G, hr, h⟩
  | .ret, hd, sl, hl, Q, h, G, a, w, hr => wpIn_ret ⟨sl, hl, G, hr, h⟩
  | .rangeFunc _ _ _ _, hd, sl, hl, Q, h, G, a, w, hr => h.elim
  | .scope _, hd, sl, hl, Q, h, G, a, w, hr => h.elim
  | .label _, hd, sl, hl, Q, h, G, a, w, hr => h.elim
  | .goto _, hd, sl, hl, Q, h, G, a, w, hr => h.elim
  | .refuse _, hd, sl, hl, Q, h, G, a, w, hr => h.elim

end Go.Proofs.Ytgdlbpihkodeoaa
