/- Sx, part P: the machine on a function's text; what a state keeps. -/
import Derived.Test.YtdpcbffmmndhcaaSxM
namespace Go.Proofs.Ytdpcbffmmndhcaa
open Go.RowKit

structure LoopG (C : CallH) (E : Env) (n : Nat) (c : Code) (sl : List SEnt) (hl : List HEnt) (B : List SEnt → List HEnt → KX → Prop) (Q : KX) : Prop where
  is : ∃ R : Nat → List SEnt → List HEnt → Prop, (∃ m s h, Wk n sl hl s h ∧ R m s h) ∧
      ∀ m s h, R m s h → B s h fun e sl' hl' => match e with
        | .normal => ∃ m' s' h', m' < m ∧ Wk n sl' hl' s' h' ∧ R m' s' h'
        | .exit j => Q (.exit j) sl' hl'
        | .ret => Q .ret sl' hl'

abbrev MX := List SEnt → List HEnt → KX → Prop
def mxSkip : MX := fun sl hl Q => Q .normal sl hl
def mxRegion (C : CallH) (E : Env) (n : Nat) (_ : Nat) (ops : Array Oper) (dr : Bool) : MX := fun sl hl Q => match dr with
  | true => mOps E noC n true ops ops.toList [] sl hl fun log sl' hl' => Run <| Drawn (niOk ops (look sl) (hget hl) log (befs ops.toList [])) (Q .normal sl' hl')
  | false => mOps E C n false ops ops.toList [] sl hl fun _ sl' hl' => Q .normal sl' hl'
def seqQ (g : MX) (Q : KX) : KX := fun e sl' hl' => match e with
  | .normal => g sl' hl' Q
  | .exit j => Q (.exit j) sl' hl'
  | .ret => Q .ret sl' hl'
def mxSeq (_ _ : Code) (f g : MX) : MX := fun sl hl Q => f sl hl (seqQ g Q)
def mxCond (c : Operand) (_ _ : Code) (f g : MX) : MX := fun sl hl Q => match (evA (look sl) c).one with
  | some (.d .bool b) => match c with
    | .tmp t => Run <| Way b (f (.put t (.v false [.d .bool true]) :: sl) hl Q) (g (.put t (.v false [.d .bool false]) :: sl) hl Q)
    | _ => Run <| Way b (f sl hl Q) (g sl hl Q)
  | _ => False
def blockQ (id : Nat) (Q : KX) : KX := fun e sl' hl' => match e with
  | .normal => Q .normal sl' hl'
  | .exit j => match Nat.beq j id with
    | true => Q .normal sl' hl'
    | false => Q (.exit j) sl' hl'
  | .ret => Q .ret sl' hl'
def mxBlock (id : Nat) (_ : Code) (f : MX) : MX := fun sl hl Q => f sl hl (blockQ id Q)
def mxLoop (C : CallH) (E : Env) (n : Nat) (c : Code) (f : MX) : MX := fun sl hl Q => Run <| LoopG C E n c sl hl f Q
def mxExit (id : Nat) : MX := fun sl hl Q => Q (.exit id) sl hl
def mxRet : MX := fun sl hl Q => Q .ret sl hl
def mxNo : MX := fun _ _ _ => False
def mx (C : CallH) (E : Env) (n : Nat) (c : Code) : MX :=
  Code.rec (motive := fun _ => MX) mxSkip (mxRegion C E n) mxSeq mxCond mxBlock (mxLoop C E n) (fun _ _ _ _ _ _ => mxNo) mxExit (fun _ _ => mxNo) (fun _ => mxNo) (fun _ => mxNo) mxRet (fun _ => mxNo) c

theorem mx_wp {P : Program} {C : CallH} {E : Env} (hE : E.Fine P) {n : Nat} (hC : CallOk P n C) (hm : CMono C) {F : Fr} : ∀ (c : Code) (sl : List SEnt) (hl : List HEnt) (Q : KX), mx C E n c sl hl Q → ∀ G a w, Rep F n (look sl) (hget hl) G a w → c.wp P (QC F n Q) a w
  | .skip, sl, hl, Q, h, G, a, w, hr => wp_skip ⟨sl, hl, G, hr, h⟩
  | .region id ops dr, sl, hl, Q, h, G, a, w, hr => by
    cases dr with
    | true =>
      have h : mOps E noC n true ops ops.toList [] sl hl fun log sl' hl' => Run <| Drawn (niOk ops (look sl) (hget hl) log (befs ops.toList [])) (Q .normal sl' hl') := h
      obtain ⟨es, sl', hl', k1, k2⟩ := exOps_chain ops.toList [] sl hl (mOps_ok noC_mono h) _ _ rfl rfl
      obtain ⟨q1, q2⟩ := k2.is
      exact region_wp hE.ok hE.loc hE.mix k1 (fun _ => by simpa using q1) (fun G' a' w' hr' => ⟨sl', hl', G', hr', q2⟩) hr
    | false =>
      have h : mOps E C n false ops ops.toList [] sl hl fun _ sl' hl' => Q .normal sl' hl' := h
      exact wp_region_list (exOps_list hE.ok hC (fun _ sl' hl' G' a' w' hq hr' => ⟨sl', hl', G', hr', hq⟩) _ _ _ _ (mOps_ok hm h) G a w hr)
  | .seq x y, sl, hl, Q, h, G, a, w, hr => by
    refine wp_seq (wp_mono (mx_wp hE hC hm x sl hl _ h G a w hr) fun e a' w' hq => ?_)
    cases e with
    | normal => obtain ⟨s, t, G', h1, h2⟩ := hq; exact mx_wp hE hC hm y s t Q h2 G' a' w' h1
    | exit j => exact hq
    | ret => exact hq
    | goto l => exact hq.elim
    | panic c => exact hq.elim
    | outgrown => exact hq.elim
  | .cond c x y, sl, hl, Q, h, G, a, w, hr => by
    replace h : mxCond c x y (mx C E n x) (mx C E n y) sl hl Q := h
    unfold mxCond at h
    split at h
    · rename_i b hone
      have hv : a.eval c = .bool b := by
        have := AV.one_rel hone (evA_rel hr.sl c)
        simpa using (show [a.eval c] = [.bool b] from this)
      split at h
      · rename_i t
        have hb := AV.one_eq hone
        have hb : look sl t = .v false [.d .bool b] := sg_eq hb (by intro e; cases e)
        refine wp_cond_split hv (fun e => mx_wp hE hC hm x _ hl Q (h.is.t e) G a w ?_) (fun e => mx_wp hE hC hm y _ hl Q (h.is.f e) G a w ?_)
        · rw [put_same (by rw [hb, e])]; exact hr
        · rw [put_same (by rw [hb, e])]; exact hr
      · exact wp_cond_split hv (fun e => mx_wp hE hC hm x sl hl Q (h.is.t e) G a w hr) (fun e => mx_wp hE hC hm y sl hl Q (h.is.f e) G a w hr)
    · exact h.elim
  | .block id x, sl, hl, Q, h, G, a, w, hr => by
    refine wp_block (wp_mono (mx_wp hE hC hm x sl hl _ h G a w hr) fun e a' w' hq => ?_)
    cases e with
    | normal => exact hq
    | exit j =>
      obtain ⟨s, t, G', h1, h2⟩ := hq
      show if j = id then QC F n Q .normal a' w' else QC F n Q (.exit j) a' w'
      by_cases hj : j = id
      · rw [if_pos hj]
        subst hj
        simp only [blockQ, beq_self] at h2
        exact ⟨s, t, G', h1, h2⟩
      · rw [if_neg hj]
        simp only [blockQ, beq_ne hj] at h2
        exact ⟨s, t, G', h1, h2⟩
    | ret => exact hq
    | goto l => exact hq.elim
    | panic c => exact hq.elim
    | outgrown => exact hq.elim
  | .loop x, sl, hl, Q, h, G, a, w, hr => by
    replace h : Run (LoopG C E n x sl hl (mx C E n x) Q) := h
    obtain ⟨R, ⟨m0, s0, t0, w0, r0⟩, hround⟩ := h.is.is
    let I : Nat → Act → World → Prop := fun m a w => ∃ s t G, R m s t ∧ Rep F n (look s) (hget t) G a w
    have hI0 : ∃ m, I m a w := by
      obtain ⟨G', hr'⟩ := w0 F G a w hr
      exact ⟨m0, s0, t0, G', r0, hr'⟩
    let μ : Act → World → Nat := fun a w => Classical.epsilon fun m => I m a w ∧ ∀ m', I m' a w → m ≤ m'
    have hmin : ∀ a w, (∃ m, I m a w) → I (μ a w) a w ∧ ∀ m', I m' a w → μ a w ≤ m' := by
      intro a w hex
      have : ∃ m, I m a w ∧ ∀ m', I m' a w → m ≤ m' := by
        obtain ⟨m, hm⟩ := hex
        induction m using Nat.strongRecOn with
        | _ m ih =>
          by_cases hlt : ∃ m', m' < m ∧ I m' a w
          · obtain ⟨m', h1, h2⟩ := hlt
            exact ih m' h1 h2
          · exact ⟨m, hm, fun m' hm' => Nat.le_of_not_lt fun hh => hlt ⟨m', hh, hm'⟩⟩
      exact Classical.epsilon_spec this
    refine wp_loop (fun a w => ∃ m, I m a w) μ hI0 fun a1 w1 hex => ?_
    obtain ⟨⟨s, t, G1, r1, rep1⟩, hle⟩ := hmin a1 w1 hex
    refine wp_mono (mx_wp hE hC hm x s t _ (hround _ s t r1) G1 a1 w1 rep1) fun e a' w' hq => ?_
    cases e with
    | normal =>
      obtain ⟨s2, t2, G2, rep2, m', s3, t3, hlt, hw, r3⟩ := hq
      obtain ⟨G3, rep3⟩ := hw F G2 a' w' rep2
      have hi : I m' a' w' := ⟨s3, t3, G3, r3, rep3⟩
      exact ⟨⟨m', hi⟩, Nat.lt_of_le_of_lt ((hmin a' w' ⟨m', hi⟩).2 m' hi) hlt⟩
    | exit j => exact hq
    | ret => exact hq
    | goto l => exact hq.elim
    | panic c => exact hq.elim
    | outgrown => exact hq.elim
  | .exit id, sl, hl, Q, h, G, a, w, hr => wp_exit ⟨sl, hl, G, hr, h⟩
  | .ret, sl, hl, Q, h, G, a, w, hr => wp_ret ⟨sl, hl, G, hr, h⟩
  | .rangeFunc _ _ _ _, sl, hl, Q, h, G, a, w, hr => h.elim
  | .scope _, sl, hl, Q, h, G, a, w, hr => h.elim
  | .label _, sl, hl, Q, h, G, a, w, hr => h.elim
  | .goto _, sl, hl, Q, h, G, a, w, hr => h.elim
  | .refuse _, sl, hl, Q, h, G, a, w, hr => h.elim

/-- a loop by an invariant: what the rounds go over, the state that it stands for, a number that falls -/
theorem LoopG.intro {C : CallH} {E : Env} {c : Code} {n : Nat} {sl : List SEnt} {hl : List HEnt} {B : List SEnt → List HEnt → KX → Prop} {Q : KX} {X : Type} (S : X → List SEnt) (H : X → List HEnt) (I : X → Prop) (m : X → Nat) (x0 : X) (hI : I x0) (hw : Wk n sl hl (S x0) (H x0))
    (hs : ∀ x, I x → B (S x) (H x) fun e sl' hl' => match e with
        | .normal => ∃ y, I y ∧ m y < m x ∧ Wk n sl' hl' (S y) (H y)
        | .exit j => Q (.exit j) sl' hl'
        | .ret => Q .ret sl' hl')
    (hB : ∀ s h Q Q', (∀ e s h, Q e s h → Q' e s h) → B s h Q → B s h Q') : LoopG C E n c sl hl B Q := by
  refine ⟨fun k s h => ∃ x, I x ∧ m x = k ∧ s = S x ∧ h = H x, ⟨m x0, S x0, H x0, hw, x0, hI, rfl, rfl, rfl⟩, ?_⟩
  rintro k s h ⟨x, hx, rfl, rfl, rfl⟩
  refine hB _ _ _ _ (fun e s h hq => ?_) (hs x hx)
  cases e with
  | normal =>
    obtain ⟨y, h1, h2, h3⟩ := hq
    exact ⟨m y, S y, H y, h2, h3, y, h1, rfl, rfl, rfl⟩
  | exit j => exact hq
  | ret => exact hq

theorem mOne_mono {E : Env} {C : CallH} (hm : CMono C) {n : Nat} {dr : Bool} {ops : Array Oper} {o : Oper} {log : List LE} {sl : List SEnt} {hl : List HEnt} {K K' : KO} (hk : ∀ l s h, K l s h → K' l s h) (h : mOne E C n dr ops o log sl hl K) : mOne E C n dr ops o log sl hl K' := by
  have hw : ∀ sl, mWant E C n dr ops o log sl hl K → mWant E C n dr ops o log sl hl K' := by
    intro sl h
    unfold mWant at h ⊢
    split
    · rename_i c x y ho
      simp only [ho] at h
      split at h
      · split at h
        · obtain ⟨h1, h2⟩ := h
          rw [fV_eq, fD_eq] at h1 h2
          refine ⟨⟨fun e => ?_, fun e => ?_⟩⟩
          · rw [fV_eq, fD_eq]; exact hk _ _ _ (h1 e)
          · rw [fV_eq, fD_eq]; exact hk _ _ _ (h2 e)
        · exact h.elim
      · exact h.elim
    · rename_i hne
      have hst : ∀ k, mStep E C n dr ops o log sl hl K k → mStep E C n dr ops o log sl hl K' k := by
        intro k h
        unfold mStep at h ⊢
        rw [nmOf_eq] at h ⊢
        split at h
        · split at h
          · obtain ⟨h1, h2⟩ := h.is
            rw [fV_eq, fN_eq, fH_eq, fD_eq] at h2
            refine ⟨⟨h1, ?_⟩⟩
            rw [fV_eq, fN_eq, fH_eq, fD_eq]
            exact hk _ _ _ h2
          · exact h.elim
        · split at h
          · exact hm _ _ _ _ _ (fun v s t q => by rw [fD_eq] at q ⊢; exact hk _ _ _ q) h
          · exact h.elim
      split at h
      · rename_i c x y ho; exact (hne c x y ho).elim
      · split at h
        · exact hst _ h
        · exact hst _ h
  have hs : ∀ sl, mSkip n dr ops o log sl hl K → mSkip n dr ops o log sl hl K' := by
    intro sl h
    unfold mSkip at h ⊢
    split at h
    · rw [fD_eq] at h ⊢; exact hk _ _ _ h
    · exact h.elim
  unfold mOne at h ⊢
  split at h
  · exact hw _ h
  · split at h
    · exact h.elim
    · split at h
      · split at h
        · exact ⟨⟨fun e => hw _ (h.is.t e), fun e => hs _ (h.is.f e)⟩⟩
        · exact ⟨⟨fun e => hs _ (h.is.t e), fun e => hw _ (h.is.f e)⟩⟩
      · exact hs _ h
      · exact h.elim
theorem mOps_mono {E : Env} {C : CallH} (hm : CMono C) {n : Nat} {dr : Bool} {ops : Array Oper} {K K' : KO} (hk : ∀ l s h, K l s h → K' l s h) : ∀ {l : List Oper} {log : List LE} {sl : List SEnt} {hl : List HEnt}, mOps E C n dr ops l log sl hl K → mOps E C n dr ops l log sl hl K'
  | [], _, _, _, h => hk _ _ _ h
  | _ :: _, _, _, _, h => mOne_mono hm (fun _ _ _ => mOps_mono hm hk) h
theorem mx_mono {E : Env} {C : CallH} (hm : CMono C) {n : Nat} : ∀ (c : Code) {sl : List SEnt} {hl : List HEnt} {Q Q' : KX}, (∀ e s h, Q e s h → Q' e s h) → mx C E n c sl hl Q → mx C E n c sl hl Q'
  | .skip, sl, hl, Q, Q', hq, h => hq _ _ _ h
  | .region id ops dr, sl, hl, Q, Q', hq, h => by
    cases dr with
    | true => exact mOps_mono noC_mono (fun l s h hk => ⟨⟨hk.is.ok, hq _ _ _ hk.is.next⟩⟩) h
    | false => exact mOps_mono hm (fun l s h hk => hq _ _ _ hk) h
  | .seq x y, sl, hl, Q, Q', hq, h => by
    refine mx_mono hm x (fun e s h hk => ?_) h
    cases e with
    | normal => exact mx_mono hm y hq hk
    | exit j => exact hq _ _ _ hk
    | ret => exact hq _ _ _ hk
  | .cond c x y, sl, hl, Q, Q', hq, h => by
    replace h : mxCond c x y (mx C E n x) (mx C E n y) sl hl Q := h
    show mxCond c x y (mx C E n x) (mx C E n y) sl hl Q'
    unfold mxCond at h ⊢
    split at h
    · split at h
      · exact ⟨⟨fun e => mx_mono hm x hq (h.is.t e), fun e => mx_mono hm y hq (h.is.f e)⟩⟩
      · exact ⟨⟨fun e => mx_mono hm x hq (h.is.t e), fun e => mx_mono hm y hq (h.is.f e)⟩⟩
    · exact h.elim
  | .block id x, sl, hl, Q, Q', hq, h => by
    refine mx_mono hm x (fun e s h hk => ?_) h
    cases e with
    | normal => exact hq _ _ _ hk
    | exit j =>
      simp only [blockQ] at hk ⊢
      split at hk
      · exact hq _ _ _ hk
      · exact hq _ _ _ hk
    | ret => exact hq _ _ _ hk
  | .loop x, sl, hl, Q, Q', hq, h => by
    replace h : Run (LoopG C E n x sl hl (mx C E n x) Q) := h
    obtain ⟨R, h0, h1⟩ := h.is.is
    refine ⟨⟨R, h0, fun m s t r => mx_mono hm x (fun e s h hk => ?_) (h1 m s t r)⟩⟩
    cases e with
    | normal => exact hk
    | exit j => exact hq _ _ _ hk
    | ret => exact hq _ _ _ hk
  | .exit id, sl, hl, Q, Q', hq, h => hq _ _ _ h
  | .ret, sl, hl, Q, Q', hq, h => hq _ _ _ h
  | .rangeFunc _ _ _ _, _, _, _, _, _, h => h.elim
  | .scope _, _, _, _, _, _, h => h.elim
  | .label _, _, _, _, _, _, h => h.elim
  | .goto _, _, _, _, _, _, h => h.elim
  | .refuse _, _, _, _, _, _, h => h.elim

/-! ### calls in place -/
def Env.at (E : Env) (q : Nat) : Env := { E with nb := q }
theorem Env.at_fine {E : Env} {P : Program} (h : E.Fine P) (q : Nat) : (E.at q).Fine P := ⟨⟨h.ok.tl, h.ok.ty, h.ok.sp, h.ok.eq, h.ok.inl⟩, h.loc, h.mix⟩
def fPar : Nat → List AV → List SEnt → (List SEnt → Prop) → Prop
  | _, [], sl, k => k sl
  | j, x :: xs, sl, k => fPar (j + 1) xs sl fun l => k (.put j x :: l)
theorem fPar_eq : ∀ {j : Nat} {xs : List AV} {sl : List SEnt} {k : List SEnt → Prop}, fPar j xs sl k = k (params j xs ++ sl)
  | _, [], _, _ => rfl
  | j, x :: xs, sl, k => by rw [fPar, fPar_eq]; rfl
def fUn : List SEnt → (List SEnt → Prop) → Prop
  | [], k => k []
  | .mark :: r, k => k r
  | .scr d :: r, k => fUn r fun r' => k (.scr d :: r')
  | .put t x :: r, k => match Nat.blt t SUS with
    | true => fUn r k
    | false => fUn r fun r' => k (.put (t - SUS) x :: r')
theorem fUn_eq : ∀ {sl : List SEnt} {k : List SEnt → Prop}, fUn sl k = k (unm sl)
  | [], _ => rfl
  | .mark :: _, _ => rfl
  | .scr _ :: r, k => by rw [fUn, fUn_eq]; rfl
  | .put t x :: r, k => by
    unfold fUn unm
    cases h : Nat.blt t SUS
    · exact fUn_eq
    · exact fUn_eq
/-- the end of a call in place -/
def mFinI (E : Env) (rs : List ResultVar) (K : KV) : KX := fun e sl hl => match e with
  | .exit _ => False
  | _ => match resAll E (look sl) (hget hl) rs with
    | some es => fEs es fun es' => fV (resAV es') fun v => fUn sl fun sl' => K v sl' hl
    | none => False
def fnI (C : CallH) (E : Env) (fn : Func) (args : List AV) (sl : List SEnt) (hl : List HEnt) (K : KV) : Prop :=
  match fn.body with
  | some c => match Nat.ble args.length fn.ntmps, Nat.ble fn.ntmps SUS with
    | true, true => fVs args fun args' => fPar 0 args' (.mark :: sl) fun sl' => mx C E fn.ntmps c sl' hl (mFinI E fn.results.toList K)
    | _, _ => False
  | none => False
def cStep (_ : Nat) (ih : Env → CallH) (E : Env) : CallH := fun o sl hl K => match o.op with
  | .call { callee := .value g, args := args, argTypes := _ } => match callee (evA (look sl)) g with
    | some (f, cs) => match E.inl f with
      | some fn => match o.dst with
        | some d => nmOf E (d + 1) fun q => fnI (ih (E.at (q * 1000))) (E.at (q * 1000)) fn (args.toList.map (evA (look sl)) ++ cs) sl hl K
        | none => nmOf E 1 fun q => fnI (ih (E.at (q * 1000))) (E.at (q * 1000)) fn (args.toList.map (evA (look sl)) ++ cs) sl hl K
      | none => False
    | none => False
  | _ => False
def cZero (_ : Env) : CallH := noC
def cH (k : Nat) : Env → CallH := Nat.rec (motive := fun _ => Env → CallH) cZero cStep k

theorem mFinI_mono {E : Env} {rs : List ResultVar} {K K' : KV} (hk : ∀ v s h, K v s h → K' v s h) : ∀ e s h, mFinI E rs K e s h → mFinI E rs K' e s h := by
  intro e s h hq
  unfold mFinI at hq ⊢
  cases e with
  | exit j => exact hq
  | normal =>
    dsimp only at hq ⊢
    split
    · rename_i es hes
      simp only [hes] at hq
      rw [fEs_eq, fV_eq, fUn_eq] at hq ⊢
      exact hk _ _ _ hq
    · rename_i hes; simp only [hes] at hq
  | ret =>
    dsimp only at hq ⊢
    split
    · rename_i es hes
      simp only [hes] at hq
      rw [fEs_eq, fV_eq, fUn_eq] at hq ⊢
      exact hk _ _ _ hq
    · rename_i hes; simp only [hes] at hq
theorem fnI_mono {C : CallH} (hm : CMono C) {E : Env} {fn : Func} {args : List AV} {sl : List SEnt} {hl : List HEnt} {K K' : KV} (hk : ∀ v s h, K v s h → K' v s h) (h : fnI C E fn args sl hl K) : fnI C E fn args sl hl K' := by
  unfold fnI at h ⊢
  split at h
  · split at h
    · rw [fVs_eq, fPar_eq] at h ⊢
      exact mx_mono hm _ (mFinI_mono hk) h
    · exact h.elim
  · exact h.elim
theorem cH_mono : ∀ k E, CMono (cH k E)
  | 0, _ => noC_mono
  | k + 1, E => by
    intro o sl hl K K' hk h
    replace h : cStep k (cH k) E o sl hl K := h
    show cStep k (cH k) E o sl hl K'
    unfold cStep at h ⊢
    split at h
    · split at h
      · split at h
        · split at h
          · rw [nmOf_eq] at h ⊢; exact fnI_mono (cH_mono k _) hk h
          · rw [nmOf_eq] at h ⊢; exact fnI_mono (cH_mono k _) hk h
        · exact h.elim
      · exact h.elim
    · exact h.elim

/-- a call that is run in place, the caller's slots put aside -/
theorem fnI_calls {P : Program} {C : CallH} {E : Env} (hE : E.Fine P) (hC : ∀ n, CallOk P n C) (hm : CMono C) {f : FuncId} {fn : Func} (hf : P.funcs[f]? = some fn) {args : List AV} {s0 : List SEnt} {hl : List HEnt} {K : KX} {c : Code} (hc : fn.body = some c)
    (hn : args.length ≤ fn.ntmps) (hS : fn.ntmps ≤ SUS) (h : mx C E fn.ntmps c (params 0 args ++ s0) hl K) {F : Fr} {G : Gh} {w : World} (hr : RepH F (hget hl) G w) (h0 : ∀ t, t < SUS → look s0 t = .un) (h1 : ∀ t, SUS ≤ t → (look s0 t).rel w G (Okay F (hget hl) G) (F.old t))
    {vals : List Value} (ha : relAs w G (Okay F (hget hl) G) args vals) {R : Ending → World → Prop}
    (hK : ∀ e sl' hl', K e sl' hl' → e ≠ .normal ∧ e ≠ .ret → False)
    (hR : ∀ e sl' hl' G' a' w', K e sl' hl' → (e = .normal ∨ e = .ret) → Rep F fn.ntmps (look sl') (hget hl') G' a' w' → ∃ v, (results fn a'.tmps).run P w' = .ok v w' ∧ R (.returned v) w') :
    Calls P f vals.toArray w R := by
  have hlen := relAs_len ha
  refine calls_of_wp hf hc (wp_mono (mx_wp hE (hC _) hm (F := F) c _ _ _ h G _ w ?_) fun e a' w' hq => ?_)
  · refine ⟨rfl, (by simp; omega), hS, fun t => ?_, hr⟩
    refine look_paramsS args vals 0 ha (by omega) (fun j hj => ?_) (fun t => ?_) t
    · rw [Nat.zero_add]
      simp only [Array.getD_eq_getD_getElem?]
      rw [Array.getElem?_append_left (by simpa using hj)]
      simp [hj]
    · by_cases ht : t < SUS
      · rw [h0 t ht]; trivial
      · rw [vl_ge ht]; exact h1 t (by omega)
  · cases e with
    | normal => obtain ⟨sl, hl', G', k1, k2⟩ := hq; obtain ⟨v, q1, q2⟩ := hR _ sl hl' G' a' w' k2 (.inl rfl) k1; exact ⟨k1.df, v, q1, q2⟩
    | ret => obtain ⟨sl, hl', G', k1, k2⟩ := hq; obtain ⟨v, q1, q2⟩ := hR _ sl hl' G' a' w' k2 (.inr rfl) k1; exact ⟨k1.df, v, q1, q2⟩
    | exit j => obtain ⟨sl, hl', G', k1, k2⟩ := hq; exact (hK _ sl hl' k2 ⟨by simp, by simp⟩).elim
    | goto l => exact hq.elim
    | panic c => exact hq.elim
    | outgrown => exact hq.elim

def Fr.sus (F : Fr) (o : Nat → Value) : Fr := ⟨F.w0, F.Z, F.S, o⟩
def oldS (F : Fr) (a : Act) (t : Nat) : Value := vl F a (t - SUS)
theorem oldS_add {F : Fr} {a : Act} {B : Nat} (hB : B = SUS) (t : Nat) : oldS F a (t + B) = vl F a t := by
  unfold oldS; rw [hB, Nat.add_sub_cancel]
theorem RepH.sus {F : Fr} {hp : Nat → Option Ob} {G : Gh} {w : World} (h : RepH F hp G w) (a : Nat → Value) : RepH (F.sus a) hp G w := ⟨h.sat, h.dj, h.bd, h.fr, h.zs⟩
theorem RepH.unsus {F : Fr} {hp : Nat → Option Ob} {G : Gh} {w : World} {a : Nat → Value} (h : RepH (F.sus a) hp G w) : RepH F hp G w := ⟨h.sat, h.dj, h.bd, h.fr, h.zs⟩

theorem sus_old {F : Fr} {o : Nat → Value} {t : Nat} : (F.sus o).old t = o t := rfl
theorem okay_sus {F : Fr} {o : Nat → Value} {hp : Nat → Option Ob} {G : Gh} : Okay (F.sus o) hp G = Okay F hp G := rfl
theorem sus_back {F : Fr} {w : World} {G : Gh} {A : Nat → Prop} {sl : List SEnt} {a a' : Act} (h : ∀ t, (look sl t).rel w G A (vl (F.sus (oldS F a)) a' t)) (t : Nat) : (look (unm sl) t).rel w G A (vl F a t) := by
  have key : ∀ B, B = SUS → (look (unm sl) t).rel w G A (vl F a t) := by
    intro B hB
    have := h (t + B)
    rw [vl_ge (show ¬ t + B < SUS by omega), sus_old] at this
    rw [← oldS_add (F := F) (a := a) hB t, look_unmG hB]
    exact this
  exact key SUS rfl
theorem sus_in {F : Fr} {w : World} {G : Gh} {A : Nat → Prop} {sl : List SEnt} {a : Act} (h : ∀ t, (look sl t).rel w G A (vl F a t)) (t : Nat) (ht : SUS ≤ t) : (look (.mark :: sl) t).rel w G A ((F.sus (oldS F a)).old t) := by
  rw [look_mark, if_neg (by omega), sus_old]
  unfold oldS
  exact h (t - SUS)
theorem fnI_runs {P : Program} {C : CallH} {E : Env} (hE : E.Fine P) (hC : ∀ n, CallOk P n C) (hm : CMono C) {f : FuncId} {fn : Func} (hf : P.funcs[f]? = some fn) {args : List AV} {sl : List SEnt} {hl : List HEnt} {K : KV} (h : fnI C E fn args sl hl K)
    {F : Fr} {n : Nat} {G : Gh} {a : Act} {w : World} (hr : Rep F n (look sl) (hget hl) G a w) {vals : List Value} (ha : relAs w G (Okay F (hget hl) G) args vals) :
    Calls P f vals.toArray w fun e w' => ∃ v, e = .returned v ∧ ∃ x sl' hl' G', K x sl' hl' ∧ Rep F n (look sl') (hget hl') G' a w' ∧ x.rel w' G' (Okay F (hget hl') G') v := by
  unfold fnI at h
  split at h
  · rename_i c hc
    split at h
    · rename_i hn hS
      rw [fVs_eq, fPar_eq] at h
      refine fnI_calls hE hC hm hf hc (Nat.le_of_ble_eq_true hn) (Nat.le_of_ble_eq_true hS) h (F := F.sus (oldS F a)) (hr.hp.sus _) (fun t ht => by rw [look_mark, if_pos ht]) (by rw [okay_sus]; exact sus_in (fun t => hr.sl t)) (by rw [okay_sus]; exact ha) (fun e sl' hl' hk he => ?_) (fun e sl' hl' G' a' w' hk he hrep => ?_)
      · cases e with
        | exit j => exact hk
        | normal => exact he.1 rfl
        | ret => exact he.2 rfl
      · have hk' : ∃ es, resAll E (look sl') (hget hl') fn.results.toList = some es ∧ K (resAV es) (unm sl') hl' := by
          rcases he with rfl | rfl
          · unfold mFinI at hk
            dsimp only at hk
            split at hk
            · rename_i es hes; rw [fEs_eq, fV_eq, fUn_eq] at hk; exact ⟨es, hes, hk⟩
            · exact hk.elim
          · unfold mFinI at hk
            dsimp only at hk
            split at hk
            · rename_i es hes; rw [fEs_eq, fV_eq, fUn_eq] at hk; exact ⟨es, hes, hk⟩
            · exact hk.elim
        obtain ⟨es, hes, hk'⟩ := hk'
        obtain ⟨v, q1, q2⟩ := results_run hE.ok hrep hes
        refine ⟨v, q1, v, rfl, resAV es, unm sl', hl', G', hk', ⟨hr.df, hr.sz, hr.lm, fun t => ?_, hrep.hp.unsus⟩, by rw [okay_sus] at q2; exact q2⟩
        have := sus_back (fun t => hrep.sl t) t
        rw [okay_sus] at this
        exact this
    · exact h.elim
  · exact h.elim

theorem cH_ok {P : Program} : ∀ (k : Nat) (E : Env), E.Fine P → ∀ n, CallOk P n (cH k E)
  | 0, _, _, _ => noC_ok
  | k + 1, E, hE, n => by
    intro o sl hl K h F G a w hr
    replace h : cStep k (cH k) E o sl hl K := h
    unfold cStep at h
    split at h
    · rename_i g args ts ho
      split at h
      · rename_i f cs hc
        split at h
        · rename_i fn hfn
          obtain ⟨q1, q2, q3⟩ := hE.ok.inl f fn hfn
          obtain ⟨vs, v1, v2⟩ := callee_rel (fun x => evA_rel hr.sl x) hc
          have ha := relAs_append (relAs_map (fun x => evA_rel hr.sl x) args.toList) v2
          have key : ∃ q, fnI (cH k (E.at q)) (E.at q) fn (args.toList.map (evA (look sl)) ++ cs) sl hl K := by
            split at h
            · rw [nmOf_eq] at h; exact ⟨_, h⟩
            · rw [nmOf_eq] at h; exact ⟨_, h⟩
          obtain ⟨q, hq⟩ := key
          unfold Runs
          rw [run_call ho v1 q1 q2 q3]
          exact fnI_runs (E.at_fine hE q) (cH_ok k _ (E.at_fine hE q)) (cH_mono k _) q1 hq hr ha
        · exact h.elim
      · exact h.elim
    · exact h.elim

/-- the end of a round -/
structure Back (p : Prop) : Prop where
  is : p
theorem loop_by {k : Nat} {E' E : Env} {n : Nat} {c : Code} {sl : List SEnt} {hl : List HEnt} {f : MX} {Q : KX} {X : Type} (S : X → List SEnt) (H : X → List HEnt) (I : X → Prop) (m : X → Nat) (x0 : X) (hI : I x0) (hw : Wk n sl hl (S x0) (H x0))
    (hs : ∀ x, I x → f (S x) (H x) fun e sl' hl' => match e with
        | .normal => Run (Back (∃ y, I y ∧ m y < m x ∧ Wk n sl' hl' (S y) (H y)))
        | .exit j => Q (.exit j) sl' hl'
        | .ret => Q .ret sl' hl') (hf : f = mx (cH k E') E n c := by rfl) : LoopG (cH k E') E n c sl hl f Q := by
  subst hf
  exact LoopG.intro S H I m x0 hI hw (fun x hx => mx_mono (cH_mono k E') c (fun e s h hq => by
    cases e with
    | normal => exact hq.is.is
    | exit j => exact hq
    | ret => exact hq) (hs x hx)) fun _ _ _ _ hq h => mx_mono (cH_mono k E') c hq h
theorem Back.by {X : Type} {I : X → Prop} {m : X → Nat} {k n : Nat} {sl : List SEnt} {hl : List HEnt} {S : X → List SEnt} {H : X → List HEnt} (y : X) (h3 : Wk n sl hl (S y) (H y)) (h1 : I y) (h2 : m y < k) : Back (∃ y, I y ∧ m y < k ∧ Wk n sl hl (S y) (H y)) := ⟨y, h1, h2, h3⟩

/-! ### weaker states -/
theorem sub_step {F : Fr} {hp hp' : Nat → Option Ob} {G : Gh} {w : World} (h : RepH F hp G w) (hs : ∀ b ob, hp' b = some ob → hp b = some ob) :
    Ext (Foot hp G) (Okay F hp G) G w (Okay F hp' G) G w [] ∧ RepH F hp' G w := by
  have hfoot : ∀ k, Foot hp' G k → Foot hp G k := by
    rintro k ⟨c, oc, h1, h2⟩
    exact ⟨c, oc, hs _ _ h1, h2⟩
  have hx : Ext (Foot hp G) (Okay F hp G) G w (Okay F hp' G) G w [] := ⟨Only.refl _ _, fun k _ ⟨h1, h2⟩ => ⟨h1, fun h3 => h2 (hfoot k h3)⟩, Okay.apart, fun _ _ => rfl⟩
  exact ⟨hx, ⟨fun c oc hc => (h.sat c oc (hs c oc hc)).ext hx (by simp) (by simp) (fun _ _ => rfl) (fun _ => Iff.rfl),
    fun c1 c2 o1 o2 hne h1 h2 => h.dj c1 c2 o1 o2 hne (hs _ _ h1) (hs _ _ h2), fun c oc hc => h.bd c oc (hs _ _ hc), h.fr, h.zs⟩⟩

def keepS (f : Nat → AV) : List SEnt → Prop
  | [] => True
  | .put t x :: r => f t = x ∧ keepS f r
  | .scr _ :: _ => False
  | .mark :: r => keepS (fun k => f (k + SUS)) r
def keepH (f : Nat → Option Ob) : List HEnt → Prop
  | [] => True
  | .put b ob :: r => f b = some ob ∧ keepH f r
  | .scr _ _ :: _ => False
theorem keepS_look {f : Nat → AV} : ∀ {sl : List SEnt}, keepS f sl → ∀ t, look sl t = f t ∨ look sl t = .un
  | [], _, t => .inr rfl
  | .put t x :: r, h, k => by
    show (bif Nat.beq k t then x else look r k) = f k ∨ (bif Nat.beq k t then x else look r k) = .un
    by_cases hk : k = t
    · subst hk; rw [beq_self]; exact .inl h.1.symm
    · rw [beq_ne hk]; exact keepS_look h.2 k
  | .scr d :: r, h, k => h.elim
  | .mark :: r, h, k => by
    rw [look_mark]
    by_cases hk : k < SUS
    · rw [if_pos hk]; exact .inr rfl
    · rw [if_neg hk]
      have := keepS_look (f := fun k => f (k + SUS)) h (k - SUS)
      simp only [show k - SUS + SUS = k by omega] at this
      exact this
theorem keepH_get {f : Nat → Option Ob} : ∀ {hl : List HEnt}, keepH f hl → ∀ b ob, hget hl b = some ob → f b = some ob
  | [], _, b, ob, h => by cases h
  | .put b' ob' :: r, hk, b, ob, h => by
    unfold hget at h
    by_cases hb : b = b'
    · subst hb; rw [beq_self] at h; cases h; exact hk.1
    · rw [beq_ne hb] at h; exact keepH_get hk.2 b ob h
  | .scr _ _ :: _, hk, _, _, _ => hk.elim
theorem Wk.keep {n : Nat} {sl sl' : List SEnt} {hl hl' : List HEnt} (h1 : keepS (look sl) sl') (h2 : keepH (hget hl) hl') : Wk n sl hl sl' hl' := by
  intro F G a w h
  obtain ⟨hx, hr⟩ := sub_step h.hp (keepH_get h2)
  refine ⟨G, h.df, h.sz, h.lm, fun t => ?_, hr⟩
  rcases keepS_look h1 t with e | e
  · rw [e]; exact hx.av (fun _ _ => by simp) (h.sl t)
  · rw [e]; trivial

/-! ### functions -/
/-- the end of a function's text -/
structure Ret (p : Prop) : Prop where
  is : p
def mFin (E : Env) (rs : List ResultVar) (K : AV → List HEnt → Prop) : KX := fun e sl hl => match e with
  | .exit _ => False
  | _ => match resAll E (look sl) (hget hl) rs with
    | some es => fEs es fun es' => Run (Ret (K (resAV es') hl))
    | none => False
theorem mFin_fin {E : Env} {rs : List ResultVar} {K : AV → List HEnt → Prop} : ∀ e s h, mFin E rs K e s h → finK E rs (fun v _ h => K v h) e s h := by
  intro e s h hk
  unfold mFin at hk
  unfold finK
  cases e with
  | exit j => exact hk.elim
  | normal =>
    dsimp only at hk ⊢
    split at hk
    · rename_i es hes; rw [fEs_eq] at hk; simp only [hes]; exact hk.is.is
    · exact hk.elim
  | ret =>
    dsimp only at hk ⊢
    split at hk
    · rename_i es hes; rw [fEs_eq] at hk; simp only [hes]; exact hk.is.is
    · exact hk.elim
/-- a function's text, run from its arguments -/
def fnM (E : Env) (fn : Func) (args : List AV) (hl : List HEnt) (K : AV → List HEnt → Prop) : Prop :=
  match fn.body with
  | some c => (Nat.ble args.length fn.ntmps && Nat.ble fn.ntmps SUS) = true ∧ mx (cH 5 E) E fn.ntmps c (params 0 args) hl (finK E fn.results.toList (fun v _ h => K v h))
  | none => False
theorem fnM_of {E : Env} {fn : Func} {args : List AV} {hl : List HEnt} {K : AV → List HEnt → Prop} {nm og : String} {tg ps rt : Array TypeId} {nf : Nat} {nr ou : Bool} {fl : String} {el : Nat} {ln : Option Nat} {mt : List Departure} {tn : Array String} {c : Code} {n : Nat} {rs : Array ResultVar} {rs' : List ResultVar} {s : List SEnt}
    (hf : fn = ⟨nm, og, tg, ps, rt, nf, n, rs, some c, nr, ou, fl, el, ln, mt, tn⟩) (hr : rs.toList = rs') (ha : (Nat.ble args.length n && Nat.ble n SUS) = true) (hs : params 0 args = s)
    (h : mx (cH 5 E) E n c s hl (mFin E rs' K)) : fnM E fn args hl K := by
  subst hf; subst hr; subst hs
  unfold fnM
  exact ⟨ha, mx_mono (cH_mono _ _) c mFin_fin h⟩
theorem fnM_calls {P : Program} {E : Env} (hE : E.Fine P) {f : FuncId} {fn : Func} (hf : P.funcs[f]? = some fn) {args : List AV} {hl : List HEnt} {K : AV → List HEnt → Prop} (h : fnM E fn args hl K) {F : Fr} {G : Gh} {w : World} (hr : RepH F (hget hl) G w) {vals : List Value} (ha : relAs w G (Okay F (hget hl) G) args vals) :
    Calls P f vals.toArray w fun e w' => ∃ v r hl' G', e = .returned v ∧ K r hl' ∧ RepH F (hget hl') G' w' ∧ r.rel w' G' (Okay F (hget hl') G') v := by
  unfold fnM at h
  split at h
  · rename_i c hc
    obtain ⟨hn, hex⟩ := h
    obtain ⟨hn, hS⟩ := Bool.and_eq_true_iff.1 hn
    refine fnI_calls hE (cH_ok 5 E hE) (cH_mono 5 E) hf hc (Nat.le_of_ble_eq_true hn) (Nat.le_of_ble_eq_true hS) (s0 := []) (by rw [List.append_nil]; exact hex) hr (fun _ _ => rfl) (fun _ _ => trivial) ha (fun e sl' hl' hk he => ?_) (fun e sl' hl' G' a' w' hk he hrep => ?_)
    · cases e with
      | exit j => exact hk
      | normal => exact he.1 rfl
      | ret => exact he.2 rfl
    · have hk' : ∃ es, resAll E (look sl') (hget hl') fn.results.toList = some es ∧ K (resAV es) hl' := by
        rcases he with rfl | rfl
        · unfold finK at hk
          dsimp only at hk
          split at hk
          · rename_i es hes; exact ⟨es, hes, hk⟩
          · exact hk.elim
        · unfold finK at hk
          dsimp only at hk
          split at hk
          · rename_i es hes; exact ⟨es, hes, hk⟩
          · exact hk.elim
      obtain ⟨es, hes, hk'⟩ := hk'
      obtain ⟨v, q1, q2⟩ := results_run hE.ok hrep hes
      exact ⟨v, q1, v, resAV es, hl', G', rfl, hk', hrep.hp, q2⟩
  · exact h.elim
end Go.Proofs.Ytdpcbffmmndhcaa
