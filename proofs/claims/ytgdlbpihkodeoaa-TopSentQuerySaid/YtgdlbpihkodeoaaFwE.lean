/- Sx, the framework, joined: SxP, SxY, SxZ, SxZa, SxZb, SxZc. Written by fw.py. -/
import Derived.Test.YtgdlbpihkodeoaaFwD
namespace Go.Proofs.Ytgdlbpihkodeoaa
open Go.RowKit

/-! part SxP -/
theorem wp_swap {P : Program} {o : Oper} {a : Act} {w : World} {K : Act → World → Prop} {Q Q' : Exit → Act → World → Prop} (hq : ∀ e a w, e ≠ .normal → Q' e a w → Q e a w) (h : o.wp P a w K Q') : o.wp P a w K Q := by
  have hl : LetsOut Q' → LetsOut Q := fun ⟨a, w, q⟩ => ⟨a, w, hq _ _ _ (by intro e; cases e) q⟩
  unfold Oper.wp at *
  generalize (execOp a.eval o).run P w = r at *
  cases r with
  | ok n w' =>
    cases n <;> simp only [Oper.upon] at h ⊢ <;>
      first
        | exact h
        | exact Calls.mono h (fun e w'' he => by
            cases e with
            | returned v => exact he
            | panicked c => exact hq _ _ _ (by intro e; cases e) he
            | outgrown => exact hl he)
  | halt x w' => cases x <;> simp only [Oper.upon] at h ⊢ <;> first | exact h | exact hq _ _ _ (by intro e; cases e) h

noncomputable def splitL (l : List Oper) : Option (List Oper × Oper) := List.rec (motive := fun _ => Option (List Oper × Oper)) none (fun o _ ih => match ih with
  | none => some ([], o)
  | some (i, x) => some (o :: i, x)) l
theorem splitL_is : ∀ {l i : List Oper} {x : Oper}, splitL l = some (i, x) → l = i ++ [x]
  | [], _, _, h => by cases h
  | o :: r, i, x, h => by
    have h' : (match splitL r with | none => some ([], o) | some (i, x) => some (o :: i, x)) = some (i, x) := h
    cases e : splitL r with
    | none =>
      rw [e] at h'
      cases h'
      cases r with
      | nil => rfl
      | cons y ys =>
        exfalso
        have h2 : (match splitL ys with | none => some ([], y) | some (i, x) => some (y :: i, x)) = none := e
        cases e2 : splitL ys with
        | none => rw [e2] at h2; cases h2
        | some p => obtain ⟨p1, p2⟩ := p; rw [e2] at h2; cases h2
    | some p =>
      obtain ⟨i', x'⟩ := p
      rw [e] at h'
      cases h'
      rw [splitL_is e]; rfl
/-- the last one waits for all -/
def waits (i : List Oper) (x : Oper) : Bool := (i.all fun o => o.guard.isNone) && x.guard.isNone && (dirs x).all (fun j => Nat.blt j i.length) && (List.range i.length).all fun j => inL (dirs x) j || i.any fun o => inL (dirs o) j

theorem wpAny_last {P : Program} {ini : Array Oper} {o : Oper} {Q Q' : Exit → Act → World → Prop} (hgi : ∀ (i : Nat) x, ini[i]? = some x → x.guard = none) (hgo : o.guard = none)
    (hd : ∀ (i : Nat) x, ini[i]? = some x → ∀ j ∈ dirs x, j < i) (hcov : ∀ j, j < ini.size → j ∈ dirs o ∨ ∃ (k : Nat) (x : Oper), ini[k]? = some x ∧ j ∈ dirs x) (hlo : ∀ j ∈ dirs o, j < ini.size)
    (hq : ∀ e a w, e ≠ .normal → Q' e a w → Q e a w) (hQ : ∀ a w, Q' .normal a w → o.wp P a w (fun a w => Q .normal a w) Q ∨ (o.asks P a w ∧ LetsOut Q)) :
    ∀ (fuel : Nat) (L : Array Bool) (a : Act) (w : World), L.size = ini.size → (∀ (i : Nat) x, ini[i]? = some x → lD L i = true → ∀ j ∈ dirs x, lD L j = true) → wpAny P .any ini Q' fuel L a w → wpAny P .any (ini.push o) Q (fuel + 1) (L.push false) a w := by
  have hro : ∀ (L : Array Bool) (x : Oper) (j : Nat), j ∈ dirs x ↔ ∃ e ∈ x.after, Region.binds .any e = true ∧ e.on = j := by
    intro L x j
    unfold dirs
    simp [List.mem_filter, and_assoc]
  have lP : ∀ (L : Array Bool) (b : Bool) (i : Nat), i < L.size → lD (L.push b) i = lD L i := by
    intro L b i hi
    unfold lD
    rw [Array.getElem?_push_lt hi, Array.getElem?_eq_getElem hi]
  have getDl : ∀ (L : Array Bool) (i : Nat), L.getD i false = lD L i := fun L i => by unfold lD; rw [Array.getD_eq_getD_getElem?]
  -- with nothing of the others ready all are listed
  have hall : ∀ L : Array Bool, L.size = ini.size → Region.ready .any ini L = [] → ∀ i, i < ini.size → lD L i = true := by
    intro L hsz hr i
    induction i using Nat.strongRecOn with
    | _ i ih =>
      intro hi
      cases hl : lD L i
      · exfalso
        have ho : ini[i]? = some ini[i] := Array.getElem?_eq_getElem hi
        have hmem : i ∈ Region.ready .any ini L := by
          rw [mem_ready]
          refine ⟨?_, ini[i], ho, fun e he hb => ?_⟩
          · unfold lD at hl
            rw [Array.getD_eq_getD_getElem?]
            have : i < L.size := by rw [hsz]; exact hi
            rw [Array.getElem?_eq_getElem this] at hl ⊢
            exact hl
          · have hdir : e.on ∈ dirs ini[i] := (hro L _ _).2 ⟨e, he, hb, rfl⟩
            have hlt := hd i _ ho _ hdir
            rw [getDl]
            exact ih e.on hlt (Nat.lt_trans hlt hi)
        rw [hr] at hmem
        cases hmem
      · rfl
  -- with the last one ready all are listed
  have hcl : ∀ L : Array Bool, L.size = ini.size → (∀ (i : Nat) x, ini[i]? = some x → lD L i = true → ∀ j ∈ dirs x, lD L j = true) → (∀ j ∈ dirs o, lD L j = true) → ∀ n j, j < ini.size → ini.size - j ≤ n → lD L j = true := by
    intro L hsz hc ho n
    induction n with
    | zero => intro j hj hn; omega
    | succ n ih =>
      intro j hj hn
      rcases hcov j hj with h | ⟨k, x, hk, hjx⟩
      · exact ho j h
      · have hjk := hd k x hk j hjx
        have hks := (Array.getElem?_eq_some_iff.1 hk).1
        exact hc k x hk (ih k hks (by omega)) j hjx
  -- the last step
  have hlast : ∀ (fuel : Nat) (L : Array Bool) (a : Act) (w : World), L.size = ini.size → (∀ i, i < ini.size → lD L i = true) → Q' .normal a w → wpOp P (ini.push o) Q ini.size (wpAny P .any (ini.push o) Q fuel (L.push true)) a w := by
    intro fuel L a w hsz hL hq'
    have hr : Region.ready .any (ini.push o) (L.push true) = [] := by
      rw [List.eq_nil_iff_forall_not_mem]
      intro i hi
      obtain ⟨h1, x, hx, -⟩ := mem_ready.1 hi
      have hlt : i < ini.size + 1 := by have := (Array.getElem?_eq_some_iff.1 hx).1; rwa [Array.size_push] at this
      have : lD (L.push true) i = true := by
        rcases Nat.lt_or_ge i ini.size with q | q
        · rw [lP _ _ _ (by omega)]; exact hL i q
        · have e : i = L.size := by omega
          unfold lD; rw [e, Array.getElem?_push_size]; rfl
      have hlt' : i < (L.push true).size := by rw [Array.size_push]; omega
      unfold lD at this
      rw [Array.getD_eq_getD_getElem?] at h1
      rw [Array.getElem?_eq_getElem hlt'] at this h1
      have h1 : (L.push true)[i] = false := h1
      have this : (L.push true)[i] = true := this
      rw [h1] at this; cases this
    unfold wpOp
    rw [Array.getElem?_push_size]
    have hw : Region.wanted o (yielded (ini.push o) a.tmps) = true := by unfold Region.wanted; rw [hgo]
    simp only [hw, if_true]
    refine (hQ a w hq').imp (fun h0 => Oper.wp_mono (fun a w h => ?_) h0) id
    cases fuel with
    | zero => exact ⟨hr, h⟩
    | succ fuel => exact ⟨fun _ => h, fun i hi => by rw [hr] at hi; cases hi⟩
  have hset : ∀ L : Array Bool, (L.push false).setIfInBounds L.size true = L.push true := by
    intro L
    apply Array.ext_getElem?
    intro i
    by_cases h : i = L.size
    · subst h
      rw [Array.getElem?_setIfInBounds_self_of_lt (by rw [Array.size_push]; omega), Array.getElem?_push_size]
    · rw [Array.getElem?_setIfInBounds_ne (Ne.symm h), Array.getElem?_push, Array.getElem?_push, if_neg h, if_neg h]
  have hset2 : ∀ (L : Array Bool) (i : Nat), i < L.size → (L.push false).setIfInBounds i true = (L.setIfInBounds i true).push false := by
    intro L i hi
    apply Array.ext_getElem?
    intro j
    rw [Array.getElem?_push, Array.size_setIfInBounds, Array.getElem?_setIfInBounds, Array.getElem?_setIfInBounds, Array.getElem?_push, Array.size_push]
    by_cases h1 : i = j
    · subst h1
      rw [if_pos rfl, if_pos rfl, if_pos (by omega), if_pos hi, if_neg (by omega)]
    · rw [if_neg h1, if_neg h1]
  have hne : ∀ (L : Array Bool), L.size = ini.size → Region.ready .any ini L = [] → Region.ready .any (ini.push o) (L.push false) ≠ [] := by
    intro L hsz hr hn
    have : ini.size ∈ Region.ready .any (ini.push o) (L.push false) := by
      rw [mem_ready]
      refine ⟨?_, o, Array.getElem?_push_size, fun e he hb => ?_⟩
      · rw [Array.getD_eq_getD_getElem?, ← hsz, Array.getElem?_push_size]; rfl
      · have hj := hlo e.on ((hro L _ _).2 ⟨e, he, hb, rfl⟩)
        rw [getDl, lP _ _ _ (by omega)]
        exact hall L hsz hr _ hj
    rw [hn] at this; cases this
  have hbelow : ∀ (L : Array Bool), L.size = ini.size → ∀ i, i ∈ Region.ready .any (ini.push o) (L.push false) → i < ini.size → i ∈ Region.ready .any ini L := by
    intro L hsz i hi hlt
    obtain ⟨h1, x, hx, h2⟩ := mem_ready.1 hi
    rw [Array.getElem?_push_lt hlt] at hx
    rw [mem_ready]
    refine ⟨?_, x, by rw [Array.getElem?_eq_getElem hlt]; exact hx, fun e he hb => ?_⟩
    · rw [Array.getD_eq_getD_getElem?, Array.getElem?_push_lt (by omega)] at h1
      rw [Array.getD_eq_getD_getElem?, Array.getElem?_eq_getElem (by omega)]
      exact h1
    · have := h2 e he hb
      have hj := hd i x (by rw [Array.getElem?_eq_getElem hlt]; exact hx) e.on ((hro L _ _).2 ⟨e, he, hb, rfl⟩)
      rw [getDl] at this ⊢
      rwa [lP _ _ _ (by omega)] at this
  have hlastR : ∀ (L : Array Bool), L.size = ini.size → (∀ (i : Nat) x, ini[i]? = some x → lD L i = true → ∀ j ∈ dirs x, lD L j = true) → ∀ i, i ∈ Region.ready .any (ini.push o) (L.push false) → ¬ i < ini.size → i = ini.size ∧ ∀ j, j < ini.size → lD L j = true := by
    intro L hsz hc i hi hge
    obtain ⟨h1, x, hx, h2⟩ := mem_ready.1 hi
    have hlt : i < ini.size + 1 := by have := (Array.getElem?_eq_some_iff.1 hx).1; rwa [Array.size_push] at this
    have e : i = ini.size := by omega
    subst e
    rw [Array.getElem?_push_size] at hx
    cases hx
    refine ⟨rfl, fun j hj => hcl L hsz hc (fun j' hj' => ?_) _ j hj (Nat.le_refl _)⟩
    obtain ⟨e, he, hb, rfl⟩ := (hro L _ _).1 hj'
    have := h2 e he hb
    rwa [getDl, lP _ _ _ (by have := hlo _ hj'; omega)] at this
  have hnr : ∀ (L : Array Bool), L.size = ini.size → (∀ j, j < ini.size → lD L j = true) → Region.ready .any ini L = [] := by
    intro L hsz hL
    rw [List.eq_nil_iff_forall_not_mem]
    intro i hi
    obtain ⟨h1, x, hx, -⟩ := mem_ready.1 hi
    have hlt := (Array.getElem?_eq_some_iff.1 hx).1
    have := hL i hlt
    unfold lD at this
    rw [Array.getD_eq_getD_getElem?] at h1
    rw [Array.getElem?_eq_getElem (by omega)] at this h1
    have h1 : L[i]'(by omega) = false := h1
    have this : L[i]'(by omega) = true := this
    rw [h1] at this; cases this
  intro fuel
  induction fuel with
  | zero =>
    intro L a w hsz hc ⟨hr, hq'⟩
    refine ⟨fun hn => absurd hn (hne L hsz hr), fun i hi => ?_⟩
    have hge : ¬ i < ini.size := fun q => by have := hbelow L hsz i hi q; rw [hr] at this; cases this
    obtain ⟨rfl, hL⟩ := hlastR L hsz hc i hi hge
    rw [← hsz, hset, hsz]
    exact hlast 0 L a w hsz hL hq'
  | succ fuel ih =>
    intro L a w hsz hc ⟨hr, hs⟩
    refine ⟨fun hn => ?_, fun i hi => ?_⟩
    · by_cases hr0 : Region.ready .any ini L = []
      · exact absurd hn (hne L hsz hr0)
      · exfalso
        obtain ⟨i, hi⟩ := List.exists_mem_of_ne_nil _ hr0
        obtain ⟨h1, x, hx, h2⟩ := mem_ready.1 hi
        have hlt := (Array.getElem?_eq_some_iff.1 hx).1
        have : i ∈ Region.ready .any (ini.push o) (L.push false) := by
          rw [mem_ready]
          refine ⟨?_, x, by rw [Array.getElem?_push_lt hlt, ← hx, Array.getElem?_eq_getElem hlt], fun e he hb => ?_⟩
          · rw [Array.getD_eq_getD_getElem?, Array.getElem?_push_lt (by omega)]
            rw [Array.getD_eq_getD_getElem?, Array.getElem?_eq_getElem (by omega)] at h1
            exact h1
          · have hj := hd i x hx e.on ((hro L _ _).2 ⟨e, he, hb, rfl⟩)
            have := h2 e he hb
            rw [getDl] at this ⊢
            rwa [lP _ _ _ (by omega)]
        rw [hn] at this; cases this
    · by_cases hlt : i < ini.size
      · have hi' := hbelow L hsz i hi hlt
        have hst := hs i hi'
        have ho : ini[i]? = some ini[i] := Array.getElem?_eq_getElem hlt
        rw [hset2 L i (by omega)]
        unfold wpOp at hst ⊢
        rw [Array.getElem?_push_lt hlt]
        simp only [ho] at hst
        have hw : ∀ y, Region.wanted ini[i] y = true := fun y => by unfold Region.wanted; rw [hgi i _ ho]
        simp only [hw, if_true] at hst ⊢
        have hnext : ∀ a' w', wpAny P .any ini Q' fuel (L.setIfInBounds i true) a' w' → wpAny P .any (ini.push o) Q (fuel + 1) ((L.setIfInBounds i true).push false) a' w' := by
          intro a' w' h'
          refine ih (L.setIfInBounds i true) a' w' (by rw [Array.size_setIfInBounds]; exact hsz) (fun k x hk hlk j hj => ?_) h'
          have hup : ∀ m, lD (L.setIfInBounds i true) m = upd (lD L) i true m := by
            intro m
            unfold lD
            by_cases hm : m = i
            · subst hm; rw [upd_same, Array.getElem?_setIfInBounds_self_of_lt (by omega)]; rfl
            · rw [upd_ne _ _ hm, Array.getElem?_setIfInBounds_ne (Ne.symm hm)]
          rw [hup] at hlk ⊢
          by_cases hji : j = i
          · subst hji; rw [upd_same]
          · rw [upd_ne _ _ hji]
            by_cases hki : k = i
            · subst hki
              obtain ⟨-, y, hy, h2⟩ := mem_ready.1 hi'
              rw [hk] at hy; cases hy
              obtain ⟨e, he, hb, rfl⟩ := (hro L _ _).1 hj
              rw [← getDl]; exact h2 e he hb
            · rw [upd_ne _ _ hki] at hlk
              exact hc k x hk hlk j hj
        rcases hst with hst | ⟨hst, hlo'⟩
        · exact .inl (Oper.wp_mono hnext (wp_swap hq hst))
        · obtain ⟨a0, w0, hq0⟩ := hlo'
          exact .inr ⟨hst, a0, w0, hq _ _ _ (by intro e; cases e) hq0⟩
      · obtain ⟨rfl, hL⟩ := hlastR L hsz hc i hi hlt
        have hr0 := hnr L hsz hL
        rw [← hsz, hset, hsz]
        exact hlast (fuel + 1) L a w hsz hL (hr hr0)

theorem region_last {P : Program} {E : Env} (hE : E.Ok P) (hs : ∀ f s, E.sp f = some s → SpLoc s) (hm : P.follows .mixedOrders = true) {n id : Nat} {ops : Array Oper} {i : List Oper} {o : Oper} (hsp : splitL ops.toList = some (i, o)) (hwt : waits i o = true)
    {s0 sN : Nat → AV} {h0 hN : Nat → Option Ob} {L : List LE} (hc : Chain E n i.toArray i L s0 h0 sN hN) (hB : niOk i.toArray s0 h0 L (befs i []) = true) {F : Fr} {Q : Exit → Act → World → Prop}
    (hQ : ∀ G a w, Rep F n sN hN G a w → o.wp P a w (fun a w => Q .normal a w) Q ∨ (o.asks P a w ∧ LetsOut Q)) {G : Gh} {a : Act} {w : World} (h : Rep F n s0 h0 G a w) : (Code.region id ops true).wp P Q a w := by
  have e : ops = i.toArray.push o := by
    apply Array.toList_inj.1
    rw [splitL_is hsp]; simp
  subst e
  unfold waits at hwt
  obtain ⟨hwt, w4⟩ := Bool.and_eq_true_iff.1 hwt
  obtain ⟨hwt, w3⟩ := Bool.and_eq_true_iff.1 hwt
  obtain ⟨w1, w2⟩ := Bool.and_eq_true_iff.1 hwt
  rw [List.all_eq_true] at w1 w3 w4
  have hlen : i.length = L.length := by
    have : ∀ (l : List Oper) (es : List LE) (s : Nat → AV) (h : Nat → Option Ob), Chain E n i.toArray l es s h sN hN → l.length = es.length := by
      intro l
      induction l with
      | nil => intro es s h hh; cases es with
        | nil => rfl
        | cons e es => exact hh.elim
      | cons o l ih => intro es s h hh; cases es with
        | nil => exact hh.elim
        | cons e es => simp [ih es _ _ hh.2]
    exact this _ _ _ _ hc
  have hni := niOk_spec (by simp [hlen]) hB
  have hnone : lD (Array.replicate i.toArray.size false) = fun _ => false := by
    funext j
    unfold lD
    rw [Array.getElem?_replicate]
    split <;> rfl
  refine wp_region_any hm ?_
  have er : Array.replicate (i.toArray.push o).size false = (Array.replicate i.toArray.size false).push false := by
    rw [Array.size_push, Array.replicate_succ]
  rw [er, Array.size_push]
  refine wpAny_last (Q' := fun e a w => match e with | .normal => ∃ G, Rep F n sN hN G a w | e => Q e a w) (fun k x hk => ?_) (by simpa using w2) (fun k x hk j hj => hni.dir k x hk j hj) (fun j hj => ?_) (fun j hj => ?_) (fun e a w hne hq => ?_) (fun a w hq => ?_) _ _ _ _ (by simp) (fun k x hk hl => by rw [hnone] at hl; cases hl) ?_
  · have : x ∈ i := by
      obtain ⟨h1, h2⟩ := Array.getElem?_eq_some_iff.1 hk
      rw [← h2]; simp
    simpa using w1 x this
  · have hj' : j < i.length := by simpa using hj
    have := w4 j (List.mem_range.2 hj')
    rcases Bool.or_eq_true_iff.1 this with q | q
    · exact .inl (inL_iff.1 q)
    · obtain ⟨x, hx, hxj⟩ := List.any_eq_true.1 q
      obtain ⟨k, hk, hk'⟩ := List.mem_iff_getElem.1 hx
      exact .inr ⟨k, x, by rw [List.getElem?_toArray, List.getElem?_eq_getElem hk, hk'], inL_iff.1 hxj⟩
  · have : j + 1 ≤ i.length := Nat.le_of_ble_eq_true (w3 j hj)
    rw [List.size_toArray]; exact this
  · cases e with
    | normal => exact absurd rfl hne
    | _ => exact hq
  · obtain ⟨G', hr'⟩ := hq
    exact hQ G' a w hr'
  · refine drawn_any hE hs hc hB (fun G a w hr => ⟨G, hr⟩) _ _ G a _ (by simp) ?_ (fun k hk => by rw [hnone] at hk; cases hk) ?_
    · rw [Array.toList_replicate]
      exact Nat.le_trans List.count_le_length (by simp)
    · rw [hnone, SD_none, HD_none]
      exact h.drew
/-- a drawn region whose last operation calls a function that runs in place and waits for all others -/
noncomputable def lastC (E : Env) (ops : Array Oper) : Option (List Oper × Oper) := match splitL ops.toList with
  | some (i, o) => match o.op with
    | .call { callee := .value (.func f), args := _, argTypes := _ } => match E.inl f, waits i o with
      | some _, true => some (i, o)
      | _, _ => none
    | _ => none
  | none => none
theorem lastC_is {E : Env} {ops : Array Oper} {i : List Oper} {o : Oper} (h : lastC E ops = some (i, o)) : splitL ops.toList = some (i, o) ∧ waits i o = true := by
  unfold lastC at h
  split at h
  · rename_i i' o' hs
    split at h
    · split at h
      · rename_i hw; cases h; exact ⟨hs, hw⟩
      · cases h
    · cases h
  · cases h

structure LoopG (C : CallH) (E : Env) (n : Nat) (c : Code) (sl : List SEnt) (hl : List HEnt) (B : List SEnt → List HEnt → KX → Prop) (Q : KX) : Prop where
  is : ∃ R : Nat → List SEnt → List HEnt → Prop, (∃ m s h, Wk n sl hl s h ∧ R m s h) ∧
      ∀ m s h, R m s h → B s h fun e sl' hl' => match e with
        | .normal => ∃ m' s' h', m' < m ∧ Wk n sl' hl' s' h' ∧ R m' s' h'
        | .exit j => Q (.exit j) sl' hl'
        | .ret => Q .ret sl' hl'

abbrev MX := List SEnt → List HEnt → KX → Prop
def mxSkip : MX := fun sl hl Q => Q .normal sl hl
def mxRegion (C : CallH) (E : Env) (n : Nat) (_ : Nat) (ops : Array Oper) (dr : Bool) : MX := fun sl hl Q => match dr with
  | true => match lastC E ops with
    | some (i, o) => mOps E noC n true i.toArray i [] sl hl fun log sl' hl' => Run <| Drawn (niOk i.toArray (look sl) (hget hl) log (befs i [])) (mOps E C n false #[o] [o] [] sl' hl' fun _ s t => Q .normal s t)
    | none => mOps E noC n true ops ops.toList [] sl hl fun log sl' hl' => Run <| Drawn (niOk ops (look sl) (hget hl) log (befs ops.toList [])) (Q .normal sl' hl')
  | false => mOps E C n false ops ops.toList [] sl hl fun _ sl' hl' => Q .normal sl' hl'
def seqQ (g : MX) (Q : KX) : KX := fun e sl' hl' => match e with
  | .normal => g sl' hl' Q
  | .exit j => Q (.exit j) sl' hl'
  | .ret => Q .ret sl' hl'
def mxSeq (_ _ : Code) (f g : MX) : MX := fun sl hl Q => f sl hl (seqQ g Q)
def mxCond (c : Operand) (_ _ : Code) (f g : MX) : MX := fun sl hl Q => match (evA (look sl) c).one with
  | some (.d .bool b) => match c with
    | .tmp t => Run <| Way b (f (.put t (.v false [.d .bool true]) :: sl) hl Q) (g (.put t (.v false [.d .bool false]) :: sl) hl Q)
    | _ => Run <| Way b (f sl hl Q) (g sl hl Q)
  | _ => False
def blockQ (id : Nat) (Q : KX) : KX := fun e sl' hl' => match e with
  | .normal => Q .normal sl' hl'
  | .exit j => match Nat.beq j id with
    | true => Q .normal sl' hl'
    | false => Q (.exit j) sl' hl'
  | .ret => Q .ret sl' hl'
def mxBlock (id : Nat) (_ : Code) (f : MX) : MX := fun sl hl Q => f sl hl (blockQ id Q)
def mxLoop (C : CallH) (E : Env) (n : Nat) (c : Code) (f : MX) : MX := fun sl hl Q => Run <| LoopG C E n c sl hl f Q
def mxExit (id : Nat) : MX := fun sl hl Q => Q (.exit id) sl hl
def mxRet : MX := fun sl hl Q => Q .ret sl hl
def mxNo : MX := fun _ _ _ => False
def mx (C : CallH) (E : Env) (n : Nat) (c : Code) : MX :=
  Code.rec (motive := fun _ => MX) mxSkip (mxRegion C E n) mxSeq mxCond mxBlock (mxLoop C E n) (fun _ _ _ _ _ _ => mxNo) mxExit (fun _ _ => mxNo) (fun _ => mxNo) (fun _ => mxNo) mxRet (fun _ => mxNo) c

theorem mx_wp {P : Program} {C : CallH} {E : Env} (hE : E.Fine P) {n : Nat} (hC : CallOk P n C) (hm : CMono C) {F : Fr} : ∀ (c : Code) (sl : List SEnt) (hl : List HEnt) (Q : KX), mx C E n c sl hl Q → ∀ G a w, Rep F n (look sl) (hget hl) G a w → c.wp P (QC F n Q) a w
  | .skip, sl, hl, Q, h, G, a, w, hr => wp_skip ⟨sl, hl, G, hr, h⟩
  | .region id ops dr, sl, hl, Q, h, G, a, w, hr => by
    cases dr with
    | true =>
      replace h : (match lastC E ops with
        | some (i, o) => mOps E noC n true i.toArray i [] sl hl fun log sl' hl' => Run <| Drawn (niOk i.toArray (look sl) (hget hl) log (befs i [])) (mOps E C n false #[o] [o] [] sl' hl' fun _ s t => Q .normal s t)
        | none => mOps E noC n true ops ops.toList [] sl hl fun log sl' hl' => Run <| Drawn (niOk ops (look sl) (hget hl) log (befs ops.toList [])) (Q .normal sl' hl')) := h
      split at h
      · rename_i i o hl0
        obtain ⟨u1, u2⟩ := lastC_is hl0
        obtain ⟨es, sl', hl', k1, k2⟩ := exOps_chain i [] sl hl (mOps_ok noC_mono h) _ _ rfl rfl
        obtain ⟨q1, q2⟩ := k2.is
        refine region_last hE.ok hE.loc hE.mix u1 u2 k1 (by simpa using q1) (fun G' a' w' hr' => ?_) hr
        have := exOps_list (F := F) (Q := QC F n Q) hE.ok hC (ops := #[o]) (fun _ s t G2 a2 w2 hq hr2 => ⟨s, t, G2, hr2, hq⟩) _ _ _ _ (mOps_ok hm q2) G' a' w' hr'
        have hw : Region.wanted o (yielded #[o] a'.tmps) = true := by
          unfold waits at u2
          obtain ⟨u2, -⟩ := Bool.and_eq_true_iff.1 u2
          obtain ⟨u2, -⟩ := Bool.and_eq_true_iff.1 u2
          obtain ⟨-, u2⟩ := Bool.and_eq_true_iff.1 u2
          unfold Region.wanted
          rw [Option.isNone_iff_eq_none.1 u2]
        simp only [wpList, hw, if_true] at this
        exact this
      obtain ⟨es, sl', hl', k1, k2⟩ := exOps_chain ops.toList [] sl hl (mOps_ok noC_mono h) _ _ rfl rfl
      obtain ⟨q1, q2⟩ := k2.is
      exact region_wp hE.ok hE.loc hE.mix k1 (fun _ => by simpa using q1) (fun G' a' w' hr' => ⟨sl', hl', G', hr', q2⟩) hr
    | false =>
      have h : mOps E C n false ops ops.toList [] sl hl fun _ sl' hl' => Q .normal sl' hl' := h
      exact wp_region_list (exOps_list hE.ok hC (fun _ sl' hl' G' a' w' hq hr' => ⟨sl', hl', G', hr', hq⟩) _ _ _ _ (mOps_ok hm h) G a w hr)
  | .seq x y, sl, hl, Q, h, G, a, w, hr => by
    refine wp_seq (wp_mono (mx_wp hE hC hm x sl hl _ h G a w hr) fun e a' w' hq => ?_)
    cases e with
    | normal => obtain ⟨s, t, G', h1, h2⟩ := hq; exact mx_wp hE hC hm y s t Q h2 G' a' w' h1
    | exit j => exact hq
    | ret => exact hq
    | goto l => exact hq.elim
    | panic c => exact hq.elim
    | outgrown => exact hq.elim
  | .cond c x y, sl, hl, Q, h, G, a, w, hr => by
    replace h : mxCond c x y (mx C E n x) (mx C E n y) sl hl Q := h
    unfold mxCond at h
    split at h
    · rename_i b hone
      have hv : a.eval c = .bool b := by
        have := AV.one_rel hone (evA_rel hr.sl c)
        simpa using (show [a.eval c] = [.bool b] from this)
      split at h
      · rename_i t
        have hb := AV.one_eq hone
        have hb : look sl t = .v false [.d .bool b] := sg_eq hb (by intro e; cases e)
        refine wp_cond_split hv (fun e => mx_wp hE hC hm x _ hl Q (h.is.t e) G a w ?_) (fun e => mx_wp hE hC hm y _ hl Q (h.is.f e) G a w ?_)
        · rw [put_same (by rw [hb, e])]; exact hr
        · rw [put_same (by rw [hb, e])]; exact hr
      · exact wp_cond_split hv (fun e => mx_wp hE hC hm x sl hl Q (h.is.t e) G a w hr) (fun e => mx_wp hE hC hm y sl hl Q (h.is.f e) G a w hr)
    · exact h.elim
  | .block id x, sl, hl, Q, h, G, a, w, hr => by
    refine wp_block (wp_mono (mx_wp hE hC hm x sl hl _ h G a w hr) fun e a' w' hq => ?_)
    cases e with
    | normal => exact hq
    | exit j =>
      obtain ⟨s, t, G', h1, h2⟩ := hq
      show if j = id then QC F n Q .normal a' w' else QC F n Q (.exit j) a' w'
      by_cases hj : j = id
      · rw [if_pos hj]
        subst hj
        simp only [blockQ, beq_self] at h2
        exact ⟨s, t, G', h1, h2⟩
      · rw [if_neg hj]
        simp only [blockQ, beq_ne hj] at h2
        exact ⟨s, t, G', h1, h2⟩
    | ret => exact hq
    | goto l => exact hq.elim
    | panic c => exact hq.elim
    | outgrown => exact hq.elim
  | .loop x, sl, hl, Q, h, G, a, w, hr => by
    replace h : Run (LoopG C E n x sl hl (mx C E n x) Q) := h
    obtain ⟨R, ⟨m0, s0, t0, w0, r0⟩, hround⟩ := h.is.is
    let I : Nat → Act → World → Prop := fun m a w => ∃ s t G, R m s t ∧ Rep F n (look s) (hget t) G a w
    have hI0 : ∃ m, I m a w := by
      obtain ⟨G', hr'⟩ := w0 F G a w hr
      exact ⟨m0, s0, t0, G', r0, hr'⟩
    let μ : Act → World → Nat := fun a w => Classical.epsilon fun m => I m a w ∧ ∀ m', I m' a w → m ≤ m'
    have hmin : ∀ a w, (∃ m, I m a w) → I (μ a w) a w ∧ ∀ m', I m' a w → μ a w ≤ m' := by
      intro a w hex
      have : ∃ m, I m a w ∧ ∀ m', I m' a w → m ≤ m' := by
        obtain ⟨m, hm⟩ := hex
        induction m using Nat.strongRecOn with
        | _ m ih =>
          by_cases hlt : ∃ m', m' < m ∧ I m' a w
          · obtain ⟨m', h1, h2⟩ := hlt
            exact ih m' h1 h2
          · exact ⟨m, hm, fun m' hm' => Nat.le_of_not_lt fun hh => hlt ⟨m', hh, hm'⟩⟩
      exact Classical.epsilon_spec this
    refine wp_loop (fun a w => ∃ m, I m a w) μ hI0 fun a1 w1 hex => ?_
    obtain ⟨⟨s, t, G1, r1, rep1⟩, hle⟩ := hmin a1 w1 hex
    refine wp_mono (mx_wp hE hC hm x s t _ (hround _ s t r1) G1 a1 w1 rep1) fun e a' w' hq => ?_
    cases e with
    | normal =>
      obtain ⟨s2, t2, G2, rep2, m', s3, t3, hlt, hw, r3⟩ := hq
      obtain ⟨G3, rep3⟩ := hw F G2 a' w' rep2
      have hi : I m' a' w' := ⟨s3, t3, G3, r3, rep3⟩
      exact ⟨⟨m', hi⟩, Nat.lt_of_le_of_lt ((hmin a' w' ⟨m', hi⟩).2 m' hi) hlt⟩
    | exit j => exact hq
    | ret => exact hq
    | goto l => exact hq.elim
    | panic c => exact hq.elim
    | outgrown => exact hq.elim
  | .exit id, sl, hl, Q, h, G, a, w, hr => wp_exit ⟨sl, hl, G, hr, h⟩
  | .ret, sl, hl, Q, h, G, a, w, hr => wp_ret ⟨sl, hl, G, hr, h⟩
  | .rangeFunc _ _ _ _, sl, hl, Q, h, G, a, w, hr => h.elim
  | .scope _, sl, hl, Q, h, G, a, w, hr => h.elim
  | .label _, sl, hl, Q, h, G, a, w, hr => h.elim
  | .goto _, sl, hl, Q, h, G, a, w, hr => h.elim
  | .refuse _, sl, hl, Q, h, G, a, w, hr => h.elim

/-- a loop by an invariant: what the rounds go over, the state that it stands for, a number that falls -/
theorem LoopG.intro {C : CallH} {E : Env} {c : Code} {n : Nat} {sl : List SEnt} {hl : List HEnt} {B : List SEnt → List HEnt → KX → Prop} {Q : KX} {X : Type} (S : X → List SEnt) (H : X → List HEnt) (I : X → Prop) (m : X → Nat) (x0 : X) (hI : I x0) (hw : Wk n sl hl (S x0) (H x0))
    (hs : ∀ x, I x → B (S x) (H x) fun e sl' hl' => match e with
        | .normal => ∃ y, I y ∧ m y < m x ∧ Wk n sl' hl' (S y) (H y)
        | .exit j => Q (.exit j) sl' hl'
        | .ret => Q .ret sl' hl')
    (hB : ∀ s h Q Q', (∀ e s h, Q e s h → Q' e s h) → B s h Q → B s h Q') : LoopG C E n c sl hl B Q := by
  refine ⟨fun k s h => ∃ x, I x ∧ m x = k ∧ s = S x ∧ h = H x, ⟨m x0, S x0, H x0, hw, x0, hI, rfl, rfl, rfl⟩, ?_⟩
  rintro k s h ⟨x, hx, rfl, rfl, rfl⟩
  refine hB _ _ _ _ (fun e s h hq => ?_) (hs x hx)
  cases e with
  | normal =>
    obtain ⟨y, h1, h2, h3⟩ := hq
    exact ⟨m y, S y, H y, h2, h3, y, h1, rfl, rfl, rfl⟩
  | exit j => exact hq
  | ret => exact hq

theorem mOne_mono {E : Env} {C : CallH} (hm : CMono C) {n : Nat} {dr : Bool} {ops : Array Oper} {o : Oper} {log : List LE} {sl : List SEnt} {hl : List HEnt} {K K' : KO} (hk : ∀ l s h, K l s h → K' l s h) (h : mOne E C n dr ops o log sl hl K) : mOne E C n dr ops o log sl hl K' := by
  have hw : ∀ sl, mWant E C n dr ops o log sl hl K → mWant E C n dr ops o log sl hl K' := by
    intro sl h
    unfold mWant at h ⊢
    split
    · rename_i c x y ho
      simp only [ho] at h
      split at h
      · split at h
        · obtain ⟨h1, h2⟩ := h
          rw [fV_eq, fD_eq] at h1 h2
          refine ⟨⟨fun e => ?_, fun e => ?_⟩⟩
          · rw [fV_eq, fD_eq]; exact hk _ _ _ (h1 e)
          · rw [fV_eq, fD_eq]; exact hk _ _ _ (h2 e)
        · exact h.elim
      · exact h.elim
    · rename_i hne
      have hst : ∀ k, mStep E C n dr ops o log sl hl K k → mStep E C n dr ops o log sl hl K' k := by
        intro k h
        unfold mStep at h ⊢
        rw [nmOf_eq] at h ⊢
        split at h
        · split at h
          · obtain ⟨h1, h2⟩ := h.is
            rw [fV_eq, fN_eq, fH_eq, fD_eq] at h2
            refine ⟨⟨h1, ?_⟩⟩
            rw [fV_eq, fN_eq, fH_eq, fD_eq]
            exact hk _ _ _ h2
          · exact h.elim
        · split at h
          · exact hm _ _ _ _ _ (fun v s t q => by rw [fD_eq] at q ⊢; exact hk _ _ _ q) h
          · exact h.elim
      split at h
      · rename_i c x y ho; exact (hne c x y ho).elim
      · split at h
        · exact hst _ h
        · exact hst _ h
  have hs : ∀ sl, mSkip n dr ops o log sl hl K → mSkip n dr ops o log sl hl K' := by
    intro sl h
    unfold mSkip at h ⊢
    split at h
    · rw [fD_eq] at h ⊢; exact hk _ _ _ h
    · exact h.elim
  unfold mOne at h ⊢
  split at h
  · exact hw _ h
  · split at h
    · exact h.elim
    · split at h
      · split at h
        · exact ⟨⟨fun e => hw _ (h.is.t e), fun e => hs _ (h.is.f e)⟩⟩
        · exact ⟨⟨fun e => hs _ (h.is.t e), fun e => hw _ (h.is.f e)⟩⟩
      · exact hs _ h
      · exact h.elim
theorem mOps_mono {E : Env} {C : CallH} (hm : CMono C) {n : Nat} {dr : Bool} {ops : Array Oper} {K K' : KO} (hk : ∀ l s h, K l s h → K' l s h) : ∀ {l : List Oper} {log : List LE} {sl : List SEnt} {hl : List HEnt}, mOps E C n dr ops l log sl hl K → mOps E C n dr ops l log sl hl K'
  | [], _, _, _, h => hk _ _ _ h
  | _ :: _, _, _, _, h => mOne_mono hm (fun _ _ _ => mOps_mono hm hk) h
theorem mx_mono {E : Env} {C : CallH} (hm : CMono C) {n : Nat} : ∀ (c : Code) {sl : List SEnt} {hl : List HEnt} {Q Q' : KX}, (∀ e s h, Q e s h → Q' e s h) → mx C E n c sl hl Q → mx C E n c sl hl Q'
  | .skip, sl, hl, Q, Q', hq, h => hq _ _ _ h
  | .region id ops dr, sl, hl, Q, Q', hq, h => by
    cases dr with
    | true =>
      replace h : (match lastC E ops with
        | some (i, o) => mOps E noC n true i.toArray i [] sl hl fun log sl' hl' => Run <| Drawn (niOk i.toArray (look sl) (hget hl) log (befs i [])) (mOps E C n false #[o] [o] [] sl' hl' fun _ s t => Q .normal s t)
        | none => mOps E noC n true ops ops.toList [] sl hl fun log sl' hl' => Run <| Drawn (niOk ops (look sl) (hget hl) log (befs ops.toList [])) (Q .normal sl' hl')) := h
      show (match lastC E ops with
        | some (i, o) => mOps E noC n true i.toArray i [] sl hl fun log sl' hl' => Run <| Drawn (niOk i.toArray (look sl) (hget hl) log (befs i [])) (mOps E C n false #[o] [o] [] sl' hl' fun _ s t => Q' .normal s t)
        | none => mOps E noC n true ops ops.toList [] sl hl fun log sl' hl' => Run <| Drawn (niOk ops (look sl) (hget hl) log (befs ops.toList [])) (Q' .normal sl' hl'))
      split at h
      · exact mOps_mono noC_mono (fun l s h hk => ⟨⟨hk.is.ok, mOps_mono hm (fun l s h hk => hq _ _ _ hk) hk.is.next⟩⟩) h
      · exact mOps_mono noC_mono (fun l s h hk => ⟨⟨hk.is.ok, hq _ _ _ hk.is.next⟩⟩) h
    | false => exact mOps_mono hm (fun l s h hk => hq _ _ _ hk) h
  | .seq x y, sl, hl, Q, Q', hq, h => by
    refine mx_mono hm x (fun e s h hk => ?_) h
    cases e with
    | normal => exact mx_mono hm y hq hk
    | exit j => exact hq _ _ _ hk
    | ret => exact hq _ _ _ hk
  | .cond c x y, sl, hl, Q, Q', hq, h => by
    replace h : mxCond c x y (mx C E n x) (mx C E n y) sl hl Q := h
    show mxCond c x y (mx C E n x) (mx C E n y) sl hl Q'
    unfold mxCond at h ⊢
    split at h
    · split at h
      · exact ⟨⟨fun e => mx_mono hm x hq (h.is.t e), fun e => mx_mono hm y hq (h.is.f e)⟩⟩
      · exact ⟨⟨fun e => mx_mono hm x hq (h.is.t e), fun e => mx_mono hm y hq (h.is.f e)⟩⟩
    · exact h.elim
  | .block id x, sl, hl, Q, Q', hq, h => by
    refine mx_mono hm x (fun e s h hk => ?_) h
    cases e with
    | normal => exact hq _ _ _ hk
    | exit j =>
      simp only [blockQ] at hk ⊢
      split at hk
      · exact hq _ _ _ hk
      · exact hq _ _ _ hk
    | ret => exact hq _ _ _ hk
  | .loop x, sl, hl, Q, Q', hq, h => by
    replace h : Run (LoopG C E n x sl hl (mx C E n x) Q) := h
    obtain ⟨R, h0, h1⟩ := h.is.is
    refine ⟨⟨R, h0, fun m s t r => mx_mono hm x (fun e s h hk => ?_) (h1 m s t r)⟩⟩
    cases e with
    | normal => exact hk
    | exit j => exact hq _ _ _ hk
    | ret => exact hq _ _ _ hk
  | .exit id, sl, hl, Q, Q', hq, h => hq _ _ _ h
  | .ret, sl, hl, Q, Q', hq, h => hq _ _ _ h
  | .rangeFunc _ _ _ _, _, _, _, _, _, h => h.elim
  | .scope _, _, _, _, _, _, h => h.elim
  | .label _, _, _, _, _, _, h => h.elim
  | .goto _, _, _, _, _, _, h => h.elim
  | .refuse _, _, _, _, _, _, h => h.elim

/-! ### calls in place -/
def Env.at (E : Env) (q : Nat) : Env := { E with nb := q }
theorem Env.at_fine {E : Env} {P : Program} (h : E.Fine P) (q : Nat) : (E.at q).Fine P := ⟨⟨h.ok.tl, h.ok.ty, h.ok.sp, h.ok.eq, h.ok.inl⟩, h.loc, h.mix⟩
def fPar : Nat → List AV → List SEnt → (List SEnt → Prop) → Prop
  | _, [], sl, k => k sl
  | j, x :: xs, sl, k => fPar (j + 1) xs sl fun l => k (.put j x :: l)
theorem fPar_eq : ∀ {j : Nat} {xs : List AV} {sl : List SEnt} {k : List SEnt → Prop}, fPar j xs sl k = k (params j xs ++ sl)
  | _, [], _, _ => rfl
  | j, x :: xs, sl, k => by rw [fPar, fPar_eq]; rfl
def fUn : List SEnt → (List SEnt → Prop) → Prop
  | [], k => k []
  | .mark :: r, k => k r
  | .scr d :: r, k => fUn r fun r' => k (.scr d :: r')
  | .put t x :: r, k => match Nat.blt t SUS with
    | true => fUn r k
    | false => fUn r fun r' => k (.put (t - SUS) x :: r')
theorem fUn_eq : ∀ {sl : List SEnt} {k : List SEnt → Prop}, fUn sl k = k (unm sl)
  | [], _ => rfl
  | .mark :: _, _ => rfl
  | .scr _ :: r, k => by rw [fUn, fUn_eq]; rfl
  | .put t x :: r, k => by
    unfold fUn unm
    cases h : Nat.blt t SUS
    · exact fUn_eq
    · exact fUn_eq
/-- behind a call in place that answers nothing the caller may go on from a weaker state -/
structure Cend (K : List SEnt → List HEnt → Prop) (sl : List SEnt) (hl : List HEnt) : Prop where
  is : ∃ sl' hl', (∀ n, Wk n sl hl sl' hl') ∧ K sl' hl'
theorem Cend.go {K : List SEnt → List HEnt → Prop} {sl : List SEnt} {hl : List HEnt} (h : K sl hl) : Cend K sl hl := ⟨sl, hl, fun _ _ G _ _ h => ⟨G, h⟩, h⟩
theorem Cend.wk {K : List SEnt → List HEnt → Prop} {sl sl' : List SEnt} {hl hl' : List HEnt} (h1 : ∀ n, Wk n sl hl sl' hl') (h : K sl' hl') : Cend K sl hl := ⟨sl', hl', h1, h⟩
def mEnd (K : KV) : List (Bool × List Lf) → List SEnt → List HEnt → Prop
  | [], sl, hl => Run (Cend (K (.tu [])) sl hl)
  | x :: es, sl, hl => fV (resAV (x :: es)) fun v => K v sl hl
/-- the end of a call in place -/
def mFinI (E : Env) (rs : List ResultVar) (K : KV) : KX := fun e sl hl => match e with
  | .exit _ => False
  | _ => match resAll E (look sl) (hget hl) rs with
    | some es => fEs es fun es' => fUn sl fun sl' => mEnd K es' sl' hl
    | none => False
theorem mEnd_mono {K K' : KV} (hk : ∀ v s h, K v s h → K' v s h) {es : List (Bool × List Lf)} {sl : List SEnt} {hl : List HEnt} (h : mEnd K es sl hl) : mEnd K' es sl hl := by
  cases es with
  | nil =>
    obtain ⟨s2, h2, q1, q2⟩ := h.is.is
    exact ⟨⟨s2, h2, q1, hk _ _ _ q2⟩⟩
  | cons x es =>
    replace h : fV (resAV (x :: es)) (fun v => K v sl hl) := h
    show fV (resAV (x :: es)) (fun v => K' v sl hl)
    rw [fV_eq] at h ⊢
    exact hk _ _ _ h
def fnI (C : CallH) (E : Env) (fn : Func) (args : List AV) (sl : List SEnt) (hl : List HEnt) (K : KV) : Prop :=
  match fn.body with
  | some c => match Nat.ble args.length fn.ntmps, Nat.ble fn.ntmps SUS with
    | true, true => fVs args fun args' => fPar 0 args' (.mark :: sl) fun sl' => mx C E fn.ntmps c sl' hl (mFinI E fn.results.toList K)
    | _, _ => False
  | none => False
def cStep (_ : Nat) (ih : Env → CallH) (E : Env) : CallH := fun o sl hl K => match o.op with
  | .call { callee := .value g, args := args, argTypes := _ } => match callee (evA (look sl)) g with
    | some (f, cs) => match E.inl f with
      | some fn => match o.dst with
        | some d => nmOf E (d + 1) fun q => fnI (ih (E.at (q * 1000))) (E.at (q * 1000)) fn (args.toList.map (evA (look sl)) ++ cs) sl hl K
        | none => nmOf E 1 fun q => fnI (ih (E.at (q * 1000))) (E.at (q * 1000)) fn (args.toList.map (evA (look sl)) ++ cs) sl hl K
      | none => False
    | none => False
  | _ => False
def cZero (_ : Env) : CallH := noC
def cH (k : Nat) : Env → CallH := Nat.rec (motive := fun _ => Env → CallH) cZero cStep k

theorem mFinI_mono {E : Env} {rs : List ResultVar} {K K' : KV} (hk : ∀ v s h, K v s h → K' v s h) : ∀ e s h, mFinI E rs K e s h → mFinI E rs K' e s h := by
  intro e s h hq
  unfold mFinI at hq ⊢
  cases e with
  | exit j => exact hq
  | normal =>
    dsimp only at hq ⊢
    split
    · rename_i es hes
      simp only [hes] at hq
      rw [fEs_eq, fUn_eq] at hq ⊢
      exact mEnd_mono hk hq
    · rename_i hes; simp only [hes] at hq
  | ret =>
    dsimp only at hq ⊢
    split
    · rename_i es hes
      simp only [hes] at hq
      rw [fEs_eq, fUn_eq] at hq ⊢
      exact mEnd_mono hk hq
    · rename_i hes; simp only [hes] at hq
theorem fnI_mono {C : CallH} (hm : CMono C) {E : Env} {fn : Func} {args : List AV} {sl : List SEnt} {hl : List HEnt} {K K' : KV} (hk : ∀ v s h, K v s h → K' v s h) (h : fnI C E fn args sl hl K) : fnI C E fn args sl hl K' := by
  unfold fnI at h ⊢
  split at h
  · split at h
    · rw [fVs_eq, fPar_eq] at h ⊢
      exact mx_mono hm _ (mFinI_mono hk) h
    · exact h.elim
  · exact h.elim
theorem cH_mono : ∀ k E, CMono (cH k E)
  | 0, _ => noC_mono
  | k + 1, E => by
    intro o sl hl K K' hk h
    replace h : cStep k (cH k) E o sl hl K := h
    show cStep k (cH k) E o sl hl K'
    unfold cStep at h ⊢
    split at h
    · split at h
      · split at h
        · split at h
          · rw [nmOf_eq] at h ⊢; exact fnI_mono (cH_mono k _) hk h
          · rw [nmOf_eq] at h ⊢; exact fnI_mono (cH_mono k _) hk h
        · exact h.elim
      · exact h.elim
    · exact h.elim

/-- a call that is run in place, the caller's slots put aside -/
theorem fnI_calls {P : Program} {C : CallH} {E : Env} (hE : E.Fine P) (hC : ∀ n, CallOk P n C) (hm : CMono C) {f : FuncId} {fn : Func} (hf : P.funcs[f]? = some fn) {args : List AV} {s0 : List SEnt} {hl : List HEnt} {K : KX} {c : Code} (hc : fn.body = some c)
    (hn : args.length ≤ fn.ntmps) (hS : fn.ntmps ≤ SUS) (h : mx C E fn.ntmps c (params 0 args ++ s0) hl K) {F : Fr} {G : Gh} {w : World} (hr : RepH F (hget hl) G w) (h0 : ∀ t, t < SUS → look s0 t = .un) (h1 : ∀ t, SUS ≤ t → (look s0 t).rel w G (Okay F (hget hl) G) (F.old t))
    {vals : List Value} (ha : relAs w G (Okay F (hget hl) G) args vals) {R : Ending → World → Prop}
    (hK : ∀ e sl' hl', K e sl' hl' → e ≠ .normal ∧ e ≠ .ret → False)
    (hR : ∀ e sl' hl' G' a' w', K e sl' hl' → (e = .normal ∨ e = .ret) → Rep F fn.ntmps (look sl') (hget hl') G' a' w' → ∃ v, (results fn a'.tmps).run P w' = .ok v w' ∧ R (.returned v) w') :
    Calls P f vals.toArray w R := by
  have hlen := relAs_len ha
  refine calls_of_wp hf hc (wp_mono (mx_wp hE (hC _) hm (F := F) c _ _ _ h G _ w ?_) fun e a' w' hq => ?_)
  · refine ⟨rfl, (by simp; omega), hS, fun t => ?_, hr⟩
    refine look_paramsS args vals 0 ha (by omega) (fun j hj => ?_) (fun t => ?_) t
    · rw [Nat.zero_add]
      simp only [Array.getD_eq_getD_getElem?]
      rw [Array.getElem?_append_left (by simpa using hj)]
      simp [hj]
    · by_cases ht : t < SUS
      · rw [h0 t ht]; trivial
      · rw [vl_ge ht]; exact h1 t (by omega)
  · cases e with
    | normal => obtain ⟨sl, hl', G', k1, k2⟩ := hq; obtain ⟨v, q1, q2⟩ := hR _ sl hl' G' a' w' k2 (.inl rfl) k1; exact ⟨k1.df, v, q1, q2⟩
    | ret => obtain ⟨sl, hl', G', k1, k2⟩ := hq; obtain ⟨v, q1, q2⟩ := hR _ sl hl' G' a' w' k2 (.inr rfl) k1; exact ⟨k1.df, v, q1, q2⟩
    | exit j => obtain ⟨sl, hl', G', k1, k2⟩ := hq; exact (hK _ sl hl' k2 ⟨by simp, by simp⟩).elim
    | goto l => exact hq.elim
    | panic c => exact hq.elim
    | outgrown => exact hq.elim

def Fr.sus (F : Fr) (o : Nat → Value) : Fr := ⟨F.w0, F.Z, F.S, o⟩
def oldS (F : Fr) (a : Act) (t : Nat) : Value := vl F a (t - SUS)
theorem oldS_add {F : Fr} {a : Act} {B : Nat} (hB : B = SUS) (t : Nat) : oldS F a (t + B) = vl F a t := by
  unfold oldS; rw [hB, Nat.add_sub_cancel]
theorem RepH.sus {F : Fr} {hp : Nat → Option Ob} {G : Gh} {w : World} (h : RepH F hp G w) (a : Nat → Value) : RepH (F.sus a) hp G w := ⟨h.sat, h.dj, h.bd, h.fr, h.zs, h.tb⟩
theorem RepH.unsus {F : Fr} {hp : Nat → Option Ob} {G : Gh} {w : World} {a : Nat → Value} (h : RepH (F.sus a) hp G w) : RepH F hp G w := ⟨h.sat, h.dj, h.bd, h.fr, h.zs, h.tb⟩

theorem sus_old {F : Fr} {o : Nat → Value} {t : Nat} : (F.sus o).old t = o t := rfl
theorem okay_sus {F : Fr} {o : Nat → Value} {hp : Nat → Option Ob} {G : Gh} : Okay (F.sus o) hp G = Okay F hp G := rfl
theorem sus_back {F : Fr} {w : World} {G : Gh} {A : Nat → Prop} {sl : List SEnt} {a a' : Act} (h : ∀ t, (look sl t).rel w G A (vl (F.sus (oldS F a)) a' t)) (t : Nat) : (look (unm sl) t).rel w G A (vl F a t) := by
  have key : ∀ B, B = SUS → (look (unm sl) t).rel w G A (vl F a t) := by
    intro B hB
    have := h (t + B)
    rw [vl_ge (show ¬ t + B < SUS by omega), sus_old] at this
    rw [← oldS_add (F := F) (a := a) hB t, look_unmG hB]
    exact this
  exact key SUS rfl
theorem sus_in {F : Fr} {w : World} {G : Gh} {A : Nat → Prop} {sl : List SEnt} {a : Act} (h : ∀ t, (look sl t).rel w G A (vl F a t)) (t : Nat) (ht : SUS ≤ t) : (look (.mark :: sl) t).rel w G A ((F.sus (oldS F a)).old t) := by
  rw [look_mark, if_neg (by omega), sus_old]
  unfold oldS
  exact h (t - SUS)
theorem fnI_runs {P : Program} {C : CallH} {E : Env} (hE : E.Fine P) (hC : ∀ n, CallOk P n C) (hm : CMono C) {f : FuncId} {fn : Func} (hf : P.funcs[f]? = some fn) {args : List AV} {sl : List SEnt} {hl : List HEnt} {K : KV} (h : fnI C E fn args sl hl K)
    {F : Fr} {n : Nat} {G : Gh} {a : Act} {w : World} (hr : Rep F n (look sl) (hget hl) G a w) {vals : List Value} (ha : relAs w G (Okay F (hget hl) G) args vals) :
    Calls P f vals.toArray w fun e w' => ∃ v, e = .returned v ∧ ∃ x sl' hl' G', K x sl' hl' ∧ Rep F n (look sl') (hget hl') G' a w' ∧ x.rel w' G' (Okay F (hget hl') G') v := by
  unfold fnI at h
  split at h
  · rename_i c hc
    split at h
    · rename_i hn hS
      rw [fVs_eq, fPar_eq] at h
      refine fnI_calls hE hC hm hf hc (Nat.le_of_ble_eq_true hn) (Nat.le_of_ble_eq_true hS) h (F := F.sus (oldS F a)) (hr.hp.sus _) (fun t ht => by rw [look_mark, if_pos ht]) (by rw [okay_sus]; exact sus_in (fun t => hr.sl t)) (by rw [okay_sus]; exact ha) (fun e sl' hl' hk he => ?_) (fun e sl' hl' G' a' w' hk he hrep => ?_)
      · cases e with
        | exit j => exact hk
        | normal => exact he.1 rfl
        | ret => exact he.2 rfl
      · have hk' : ∃ es, resAll E (look sl') (hget hl') fn.results.toList = some es ∧ mEnd K es (unm sl') hl' := by
          rcases he with rfl | rfl
          · unfold mFinI at hk
            dsimp only at hk
            split at hk
            · rename_i es hes; rw [fEs_eq, fUn_eq] at hk; exact ⟨es, hes, hk⟩
            · exact hk.elim
          · unfold mFinI at hk
            dsimp only at hk
            split at hk
            · rename_i es hes; rw [fEs_eq, fUn_eq] at hk; exact ⟨es, hes, hk⟩
            · exact hk.elim
        obtain ⟨es, hes, hk'⟩ := hk'
        obtain ⟨v, q1, q2⟩ := results_run hE.ok hrep hes
        have r0 : Rep F n (look (unm sl')) (hget hl') G' a w' := ⟨hr.df, hr.sz, hr.lm, fun t => by
          have := sus_back (fun t => hrep.sl t) t
          rw [okay_sus] at this
          exact this, hrep.hp.unsus⟩
        rw [okay_sus] at q2
        cases es with
        | nil =>
          obtain ⟨s2, h2, hw, hk2⟩ := hk'.is.is
          obtain ⟨G2, r2⟩ := hw n F G' a w' r0
          exact ⟨v, q1, v, rfl, .tu [], s2, h2, G2, hk2, r2, q2⟩
        | cons x es =>
          replace hk' : fV (resAV (x :: es)) (fun v => K v (unm sl') hl') := hk'
          rw [fV_eq] at hk'
          exact ⟨v, q1, v, rfl, resAV (x :: es), unm sl', hl', G', hk', r0, q2⟩
    · exact h.elim
  · exact h.elim

theorem cH_ok {P : Program} : ∀ (k : Nat) (E : Env), E.Fine P → ∀ n, CallOk P n (cH k E)
  | 0, _, _, _ => noC_ok
  | k + 1, E, hE, n => by
    intro o sl hl K h F G a w hr
    replace h : cStep k (cH k) E o sl hl K := h
    unfold cStep at h
    split at h
    · rename_i g args ts ho
      split at h
      · rename_i f cs hc
        split at h
        · rename_i fn hfn
          obtain ⟨q1, q2, q3⟩ := hE.ok.inl f fn hfn
          obtain ⟨vs, v1, v2⟩ := callee_rel (fun x => evA_rel hr.sl x) hc
          have ha := relAs_append (relAs_map (fun x => evA_rel hr.sl x) args.toList) v2
          have key : ∃ q, fnI (cH k (E.at q)) (E.at q) fn (args.toList.map (evA (look sl)) ++ cs) sl hl K := by
            split at h
            · rw [nmOf_eq] at h; exact ⟨_, h⟩
            · rw [nmOf_eq] at h; exact ⟨_, h⟩
          obtain ⟨q, hq⟩ := key
          unfold Runs
          rw [run_call ho v1 q1 q2 q3]
          exact fnI_runs (E.at_fine hE q) (cH_ok k _ (E.at_fine hE q)) (cH_mono k _) q1 hq hr ha
        · exact h.elim
      · exact h.elim
    · exact h.elim

/-- the end of a round -/
structure Back (p : Prop) : Prop where
  is : p
theorem loop_by {k : Nat} {E' E : Env} {n : Nat} {c : Code} {sl : List SEnt} {hl : List HEnt} {f : MX} {Q : KX} {X : Type} (S : X → List SEnt) (H : X → List HEnt) (I : X → Prop) (m : X → Nat) (x0 : X) (hI : I x0) (hw : Wk n sl hl (S x0) (H x0))
    (hs : ∀ x, I x → f (S x) (H x) fun e sl' hl' => match e with
        | .normal => Run (Back (∃ y, I y ∧ m y < m x ∧ Wk n sl' hl' (S y) (H y)))
        | .exit j => Q (.exit j) sl' hl'
        | .ret => Q .ret sl' hl') (hf : f = mx (cH k E') E n c := by rfl) : LoopG (cH k E') E n c sl hl f Q := by
  subst hf
  exact LoopG.intro S H I m x0 hI hw (fun x hx => mx_mono (cH_mono k E') c (fun e s h hq => by
    cases e with
    | normal => exact hq.is.is
    | exit j => exact hq
    | ret => exact hq) (hs x hx)) fun _ _ _ _ hq h => mx_mono (cH_mono k E') c hq h
theorem Back.by {X : Type} {I : X → Prop} {m : X → Nat} {k n : Nat} {sl : List SEnt} {hl : List HEnt} {S : X → List SEnt} {H : X → List HEnt} (y : X) (h3 : Wk n sl hl (S y) (H y)) (h1 : I y) (h2 : m y < k) : Back (∃ y, I y ∧ m y < k ∧ Wk n sl hl (S y) (H y)) := ⟨y, h1, h2, h3⟩

/-! ### weaker states -/
theorem sub_step {F : Fr} {hp hp' : Nat → Option Ob} {G : Gh} {w : World} (h : RepH F hp G w) (hs : ∀ b ob, hp' b = some ob → hp b = some ob) :
    Ext (Foot hp G) (Okay F hp G) G w (Okay F hp' G) G w [] ∧ RepH F hp' G w := by
  have hfoot : ∀ k, Foot hp' G k → Foot hp G k := by
    rintro k ⟨c, oc, h1, h2⟩
    exact ⟨c, oc, hs _ _ h1, h2⟩
  have hx : Ext (Foot hp G) (Okay F hp G) G w (Okay F hp' G) G w [] := ⟨Only.refl _ _, fun k _ ⟨h1, h2⟩ => ⟨h1, fun h3 => h2 (hfoot k h3)⟩, Okay.apart, fun _ _ => rfl⟩
  exact ⟨hx, ⟨fun c oc hc => (h.sat c oc (hs c oc hc)).ext hx (by simp) (by simp) (fun _ _ => rfl) (fun _ => Iff.rfl),
    fun c1 c2 o1 o2 hne h1 h2 => h.dj c1 c2 o1 o2 hne (hs _ _ h1) (hs _ _ h2), fun c oc hc => h.bd c oc (hs _ _ hc), h.fr, h.zs, h.tb⟩⟩

def keepS (f : Nat → AV) : List SEnt → Prop
  | [] => True
  | .put t x :: r => f t = x ∧ keepS f r
  | .scr _ :: _ => False
  | .mark :: r => keepS (fun k => f (k + SUS)) r
def keepH (f : Nat → Option Ob) : List HEnt → Prop
  | [] => True
  | .put b ob :: r => f b = some ob ∧ keepH f r
  | .scr _ _ :: _ => False
theorem keepS_look {f : Nat → AV} : ∀ {sl : List SEnt}, keepS f sl → ∀ t, look sl t = f t ∨ look sl t = .un
  | [], _, t => .inr rfl
  | .put t x :: r, h, k => by
    show (bif Nat.beq k t then x else look r k) = f k ∨ (bif Nat.beq k t then x else look r k) = .un
    by_cases hk : k = t
    · subst hk; rw [beq_self]; exact .inl h.1.symm
    · rw [beq_ne hk]; exact keepS_look h.2 k
  | .scr d :: r, h, k => h.elim
  | .mark :: r, h, k => by
    rw [look_mark]
    by_cases hk : k < SUS
    · rw [if_pos hk]; exact .inr rfl
    · rw [if_neg hk]
      have := keepS_look (f := fun k => f (k + SUS)) h (k - SUS)
      simp only [show k - SUS + SUS = k by omega] at this
      exact this
theorem keepH_get {f : Nat → Option Ob} : ∀ {hl : List HEnt}, keepH f hl → ∀ b ob, hget hl b = some ob → f b = some ob
  | [], _, b, ob, h => by cases h
  | .put b' ob' :: r, hk, b, ob, h => by
    unfold hget at h
    by_cases hb : b = b'
    · subst hb; rw [beq_self] at h; cases h; exact hk.1
    · rw [beq_ne hb] at h; exact keepH_get hk.2 b ob h
  | .scr _ _ :: _, hk, _, _, _ => hk.elim
theorem Wk.keep {n : Nat} {sl sl' : List SEnt} {hl hl' : List HEnt} (h1 : keepS (look sl) sl') (h2 : keepH (hget hl) hl') : Wk n sl hl sl' hl' := by
  intro F G a w h
  obtain ⟨hx, hr⟩ := sub_step h.hp (keepH_get h2)
  refine ⟨G, h.df, h.sz, h.lm, fun t => ?_, hr⟩
  rcases keepS_look h1 t with e | e
  · rw [e]; exact hx.av (fun _ _ => by simp) (h.sl t)
  · rw [e]; trivial

/-! ### functions -/
/-- the end of a function's text -/
structure Ret (p : Prop) : Prop where
  is : p
def mFin (E : Env) (rs : List ResultVar) (K : AV → List HEnt → Prop) : KX := fun e sl hl => match e with
  | .exit _ => False
  | _ => match resAll E (look sl) (hget hl) rs with
    | some es => fEs es fun es' => Run (Ret (K (resAV es') hl))
    | none => False
theorem mFin_fin {E : Env} {rs : List ResultVar} {K : AV → List HEnt → Prop} : ∀ e s h, mFin E rs K e s h → finK E rs (fun v _ h => K v h) e s h := by
  intro e s h hk
  unfold mFin at hk
  unfold finK
  cases e with
  | exit j => exact hk.elim
  | normal =>
    dsimp only at hk ⊢
    split at hk
    · rename_i es hes; rw [fEs_eq] at hk; simp only [hes]; exact hk.is.is
    · exact hk.elim
  | ret =>
    dsimp only at hk ⊢
    split at hk
    · rename_i es hes; rw [fEs_eq] at hk; simp only [hes]; exact hk.is.is
    · exact hk.elim
/-- a function's text, run from its arguments -/
def fnM (E : Env) (fn : Func) (args : List AV) (hl : List HEnt) (K : AV → List HEnt → Prop) : Prop :=
  match fn.body with
  | some c => (Nat.ble args.length fn.ntmps && Nat.ble fn.ntmps SUS) = true ∧ mx (cH 5 E) E fn.ntmps c (params 0 args) hl (finK E fn.results.toList (fun v _ h => K v h))
  | none => False
theorem fnM_of {E : Env} {fn : Func} {args : List AV} {hl : List HEnt} {K : AV → List HEnt → Prop} {nm og : String} {tg ps rt : Array TypeId} {nf : Nat} {nr ou : Bool} {fl : String} {el : Nat} {ln : Option Nat} {mt : List Departure} {tn : Array String} {c : Code} {n : Nat} {rs : Array ResultVar} {rs' : List ResultVar} {s : List SEnt}
    (hf : fn = ⟨nm, og, tg, ps, rt, nf, n, rs, some c, nr, ou, fl, el, ln, mt, tn⟩) (hr : rs.toList = rs') (ha : (Nat.ble args.length n && Nat.ble n SUS) = true) (hs : params 0 args = s)
    (h : mx (cH 5 E) E n c s hl (mFin E rs' K)) : fnM E fn args hl K := by
  subst hf; subst hr; subst hs
  unfold fnM
  exact ⟨ha, mx_mono (cH_mono _ _) c mFin_fin h⟩
theorem fnM_calls {P : Program} {E : Env} (hE : E.Fine P) {f : FuncId} {fn : Func} (hf : P.funcs[f]? = some fn) {args : List AV} {hl : List HEnt} {K : AV → List HEnt → Prop} (h : fnM E fn args hl K) {F : Fr} {G : Gh} {w : World} (hr : RepH F (hget hl) G w) {vals : List Value} (ha : relAs w G (Okay F (hget hl) G) args vals) :
    Calls P f vals.toArray w fun e w' => ∃ v r hl' G', e = .returned v ∧ K r hl' ∧ RepH F (hget hl') G' w' ∧ r.rel w' G' (Okay F (hget hl') G') v := by
  unfold fnM at h
  split at h
  · rename_i c hc
    obtain ⟨hn, hex⟩ := h
    obtain ⟨hn, hS⟩ := Bool.and_eq_true_iff.1 hn
    refine fnI_calls hE (cH_ok 5 E hE) (cH_mono 5 E) hf hc (Nat.le_of_ble_eq_true hn) (Nat.le_of_ble_eq_true hS) (s0 := []) (by rw [List.append_nil]; exact hex) hr (fun _ _ => rfl) (fun _ _ => trivial) ha (fun e sl' hl' hk he => ?_) (fun e sl' hl' G' a' w' hk he hrep => ?_)
    · cases e with
      | exit j => exact hk
      | normal => exact he.1 rfl
      | ret => exact he.2 rfl
    · have hk' : ∃ es, resAll E (look sl') (hget hl') fn.results.toList = some es ∧ K (resAV es) hl' := by
        rcases he with rfl | rfl
        · unfold finK at hk
          dsimp only at hk
          split at hk
          · rename_i es hes; exact ⟨es, hes, hk⟩
          · exact hk.elim
        · unfold finK at hk
          dsimp only at hk
          split at hk
          · rename_i es hes; exact ⟨es, hes, hk⟩
          · exact hk.elim
      obtain ⟨es, hes, hk'⟩ := hk'
      obtain ⟨v, q1, q2⟩ := results_run hE.ok hrep hes
      exact ⟨v, q1, v, resAV es, hl', G', rfl, hk', hrep.hp, q2⟩
  · exact h.elim

/-! part SxY -/
def Ty.flat : Ty → Bool
  | .slice _ => false
  | .pair a b => a.flat && b.flat
  | .st a => a.flat
  | _ => true
theorem flat_rd {w w' : World} {A A' : Nat → Prop} : ∀ (t : Ty) (x : t.den) (cs : List Value), t.flat = true → t.rd w A x cs → t.rd w' A' x cs
  | .int _, _, _, _, h => h
  | .bool, _, _, _, h => h
  | .str, _, _, _, h => h
  | .slice _, _, _, f, _ => by cases f
  | .pair a b, x, cs, f, h => by
    obtain ⟨f1, f2⟩ := Bool.and_eq_true_iff.1 f
    obtain ⟨c1, c2, h0, h1, h2⟩ := h
    exact ⟨c1, c2, h0, flat_rd a _ _ f1 h1, flat_rd b _ _ f2 h2⟩
  | .st a, x, cs, f, h => flat_rd a x cs f h

def Lf.plain (fl : Bool) : Lf → Bool
  | .d t _ => !fl || t.flat
  | .nl => true
  | .np => true
  | .nf => true
  | .un => true
  | _ => false
def AV.plain (fl : Bool) : AV → Bool
  | .v _ ls => ls.all (Lf.plain fl)
  | .tu es => es.all fun e => e.2.all (Lf.plain fl)
  | .un => true

/-- one reading of plain cells goes over to another -/
theorem plain_lf {fl : Bool} {w w' : World} {G G' : Gh} {A A' : Nat → Prop} (hm : fl = false → ∀ (t : Ty) (x : t.den) cs, t.rd w A x cs → t.rd w' A' x cs) {x : Lf} {v : Value} (hp : x.plain fl = true) (h : x.rel w G A v) : x.rel w' G' A' v := by
  cases x with
  | d t x =>
    cases fl with
    | false => exact hm rfl t x _ h
    | true => exact flat_rd t x _ hp h
  | nl => exact h
  | np => exact h
  | nf => exact h
  | un => exact h
  | _ => cases hp
theorem plain_ls {fl : Bool} {w w' : World} {G G' : Gh} {A A' : Nat → Prop} (hm : fl = false → ∀ (t : Ty) (x : t.den) cs, t.rd w A x cs → t.rd w' A' x cs) : ∀ {xs : List Lf} {vs : List Value}, xs.all (Lf.plain fl) = true → relL w G A xs vs → relL w' G' A' xs vs
  | [], _, _, h => h
  | x :: xs, vs, hp, h => by
    rw [List.all_cons, Bool.and_eq_true_iff] at hp
    obtain ⟨v, r, h0, h1, h2⟩ := h
    exact ⟨v, r, h0, plain_lf hm hp.1 h1, plain_ls hm hp.2 h2⟩
theorem plain_es {fl : Bool} {w w' : World} {G G' : Gh} {A A' : Nat → Prop} (hm : fl = false → ∀ (t : Ty) (x : t.den) cs, t.rd w A x cs → t.rd w' A' x cs) : ∀ {xs : List (Bool × List Lf)} {vs : List Value}, xs.all (fun e => e.2.all (Lf.plain fl)) = true → relT w G A xs vs → relT w' G' A' xs vs
  | [], _, _, h => h
  | x :: xs, vs, hp, h => by
    rw [List.all_cons, Bool.and_eq_true_iff] at hp
    obtain ⟨v, r, h0, ⟨us, k1, k2, k3⟩, h2⟩ := h
    exact ⟨v, r, h0, ⟨us, plain_ls hm hp.1 k1, k2, k3⟩, plain_es hm hp.2 h2⟩
theorem plain_av {fl : Bool} {w w' : World} {G G' : Gh} {A A' : Nat → Prop} (hm : fl = false → ∀ (t : Ty) (x : t.den) cs, t.rd w A x cs → t.rd w' A' x cs) {x : AV} {v : Value} (hp : x.plain fl = true) (h : x.rel w G A v) : x.rel w' G' A' v := by
  cases x with
  | v a ls => obtain ⟨us, k1, k2, k3⟩ := h; exact ⟨us, plain_ls hm hp k1, k2, k3⟩
  | tu es => obtain ⟨vs, h1, h2⟩ := h; exact ⟨vs, h1, plain_es hm hp h2⟩
  | un => trivial

/-! ### arguments -/
def packG (t : Ty) (g : Bool) (ls : List Lf) : Option t.den := match g == t.isSt with
  | true => match t.pack ls with
    | some (x, []) => some x
    | _ => none
  | false => none
def argOf (hp : Nat → Option Ob) : (t : Ty) → AV → Option t.den
  | .slice e, .v false [l] => asList hp e l
  | .int k, .v false [.d (.int j) x] => match decide (j = k) with
    | true => some x
    | false => none
  | .bool, .v false [.d .bool x] => some x
  | .str, .v false [.d .str x] => some x
  | .pair a b, .v g ls => packG (.pair a b) g ls
  | .st (.slice e), .v true [l] => asList hp e l
  | .st a, .v g ls => packG (.st a) g ls
  | _, _ => none
@[reducible] def dens : List Ty → Type
  | [] => Unit
  | t :: ts => t.den × dens ts
def argsOf (hp : Nat → Option Ob) : (ts : List Ty) → List AV → Option (dens ts)
  | [], [] => some ()
  | t :: ts, a :: aas => match argOf hp t a, argsOf hp ts aas with
    | some x, some xs => some (x, xs)
    | _, _ => none
  | _, _ => none
def argAV : (ts : List Ty) → dens ts → List AV
  | [], _ => []
  | t :: ts, x => .v t.isSt (t.leaves x.1) :: argAV ts x.2

theorem reads_rdA {w : World} {A : Nat → Prop} {t : Ty} {l : List t.den} {v : Value} (h : Reads w A t v l) (hA : 0 < l.length → ∀ b off n cap, v = .slice (some ⟨b, off, none⟩) n cap → A b) : (Ty.slice t).rd w A l [v] := by
  obtain ⟨vs, h1, ao, cap, rfl, h2, h3, h4, h5⟩ := h
  refine ⟨ao, cap, rfl, h2, h3, h5, fun i hi => ?_⟩
  have hr := rdL_at h1 i hi
  have hlen := rdL_len h1
  have hs := t.size_pos
  have hm : (i + 1) * t.size ≤ l.length * t.size := Nat.mul_le_mul_right _ hi
  have hin : i * t.size < vs.length := by rw [hlen]; rw [Nat.add_mul, Nat.one_mul] at hm; omega
  obtain ⟨b, off, hao, hc⟩ := h4 _ hin
  have hb : b < w.heap.size := by
    unfold World.cell? at hc
    dsimp only at hc
    rcases Nat.lt_or_ge b w.heap.size with hl | hl
    · exact hl
    · rw [Array.getElem?_eq_none hl] at hc; cases hc
  refine ⟨b, off, _, hao, hA (by omega) b off _ _ (by rw [hao]), hb, hr, fun j hj => ?_⟩
  have hj' : j < t.size := by simp only [List.length_take] at hj; omega
  have hq : i * t.size + j < vs.length := by rw [hlen]; rw [Nat.add_mul, Nat.one_mul] at hm; omega
  obtain ⟨b', off', e, hc'⟩ := h4 _ hq
  rw [hao] at e
  cases e
  rw [hc', List.getElem_take, List.getElem_drop]

theorem reads_rd {w : World} {A : Nat → Prop} {t : Ty} {l : List t.den} {v : Value} (h : Reads w A t v l) (hA : ∀ k, A k) : (Ty.slice t).rd w A l [v] := reads_rdA h fun _ b _ _ _ _ => hA b

theorem packG_rd {w : World} {G : Gh} {A : Nat → Prop} {t : Ty} {g : Bool} {ls : List Lf} {x : t.den} {v : Value} (e : packG t g ls = some x) (h : (AV.v g ls).rel w G A v) : ∃ cs, t.rd w A x cs ∧ v = mkV t.isSt cs ∧ (t.isSt = false → cs.length = 1) := by
  unfold packG at e
  split at e
  · rename_i hg
    have hg : g = t.isSt := by simpa using hg
    split at e
    · rename_i y hp
      cases e
      obtain ⟨us, k1, k2, k3⟩ := h
      obtain ⟨c, q, e1, e2, e3⟩ := pack_rd t ls x [] us hp k1
      obtain rfl := (show q = _ from e3)
      rw [List.append_nil] at e1
      subst e1
      exact ⟨us, e2, by rw [k2, hg], fun hf => k3 (by rw [hg]; exact hf)⟩
    · cases e
  · cases e

/-- an argument reads as its data, from the blocks that the frame lets data lie in; with objects lent, from any -/
theorem argOf_rel {F : Fr} {hp hq : Nat → Option Ob} {G G0 : Gh} {w : World} {A : Nat → Prop} (h : RepH F hp G w) (hA : ∀ k, Okay F hp G k → A k) (hb : (∀ k, A k) ∧ hq = hp ∨ hq = fun _ => none) {t : Ty} {a : AV} {x : t.den} {v : Value} (e : argOf hq t a = some x) (ha : a.rel w G (Okay F hp G) v) :
    (AV.v t.isSt (t.leaves x)).rel w G0 A v := by
  have hmono : ∀ (t : Ty) (x : t.den) cs, t.rd w (Okay F hp G) x cs → t.rd w A x cs := fun t x cs hh => Ty.rd_mono (Nat.le_refl _) (fun b hb _ => ⟨hA b hb, rfl⟩) t x cs hh
  have gen : ∀ {t : Ty} {g : Bool} {ls : List Lf} {x : t.den}, packG t g ls = some x → (AV.v g ls).rel w G (Okay F hp G) v → (AV.v t.isSt (t.leaves x)).rel w G0 A v := by
    intro t g ls x e ha
    obtain ⟨cs, k1, k2, k3⟩ := packG_rd e ha
    exact ⟨cs, leaves_rel t x cs (hmono t x cs k1), k2, k3⟩
  have lst : ∀ {e' : Ty} {l : Lf} {x : List e'.den} {u : Value}, asList hq e' l = some x → l.rel w G (Okay F hp G) u → (Ty.slice e').rd w A x [u] := by
    intro e' l x u e hl
    rcases hb with ⟨hall, rfl⟩ | rfl
    · have := asList_reads e h hl
      obtain ⟨vs, r1, r2⟩ := this
      exact reads_rd ⟨vs, rdL_mono (Nat.le_refl _) (fun b hb _ => ⟨hA b hb, rfl⟩) r1, r2⟩ hall
    · cases l with
      | nl =>
        cases e
        obtain rfl := (show u = _ from hl)
        exact ⟨none, 0, rfl, Nat.le_refl _, Nat.zero_le _, fun _ => rfl, fun i hi => by simp at hi⟩
      | d u y =>
        unfold asList at e
        dsimp only at e
        split at e
        · rename_i hu
          subst hu
          cases e
          exact hmono (.slice e') _ _ hl
        · cases e
      | _ => cases e
  unfold argOf at e
  split at e
  · rename_i e' l
    exact AV.rel_of (lst e (AV.one_rel (x := .v false [l]) rfl ha))
  · rename_i k j x
    cases hd : decide (j = k) with
    | true =>
      rw [hd] at e
      cases e
      obtain rfl := of_decide_eq_true hd
      exact AV.rel_of (hmono _ _ _ (AV.one_rel (x := .v false [.d (.int j) _]) rfl ha))
    | false => rw [hd] at e; cases e
  · cases e
    exact AV.rel_of (hmono _ _ _ (AV.one_rel (x := .v false [.d .bool _]) rfl ha))
  · cases e
    exact AV.rel_of (hmono _ _ _ (AV.one_rel (x := .v false [.d .str _]) rfl ha))
  · exact gen e ha
  · rename_i e' l
    obtain ⟨us, k1, k2, k3⟩ := ha
    obtain ⟨u, r, rfl, q1, rfl⟩ := k1
    exact ⟨[u], leaves_rel (.st (.slice e')) x [u] (lst e q1), k2, fun hf => by cases hf⟩
  all_goals first | exact gen e ha | cases e
theorem castD_self {u : Ty} (h : u = u) (x : u.den) : castD h x = x := rfl
theorem castL_self {u : Ty} (h : u = u) (x : List u.den) : castL h x = x := rfl
theorem argsOf_rel {F : Fr} {hp hq : Nat → Option Ob} {G G0 : Gh} {w : World} {A : Nat → Prop} (h : RepH F hp G w) (hA : ∀ k, Okay F hp G k → A k) (hb : (∀ k, A k) ∧ hq = hp ∨ hq = fun _ => none) : ∀ (ts : List Ty) (aas : List AV) (xs : dens ts) (vs : List Value), argsOf hq ts aas = some xs → relAs w G (Okay F hp G) aas vs → relAs w G0 A (argAV ts xs) vs
  | [], [], xs, vs, _, ha => ha
  | [], _ :: _, xs, vs, e, _ => by cases e
  | _ :: _, [], xs, vs, e, _ => by cases e
  | t :: ts, a :: aas, xs, vs, e, ha => by
    unfold argsOf at e
    split at e
    · rename_i x xs' h1 h2
      cases e
      obtain ⟨v, r, h0, k1, k2⟩ := ha
      exact ⟨v, r, h0, argOf_rel h hA hb h1 k1, argsOf_rel h hA hb ts aas xs' r h2 k2⟩
    · cases e

/-- what every value of the language is within -/
def Ty.sane : (t : Ty) → t.den → Prop
  | .int k, n => kmin k ≤ n ∧ n ≤ kmax k
  | .bool, _ => True
  | .str, s => s.size ≤ maxLen
  | .slice e, l => l.length ≤ maxLen ∧ ∀ x ∈ l, e.sane x
  | .pair a b, x => a.sane x.1 ∧ b.sane x.2
  | .st a, x => a.sane x
theorem rd_sane {w : World} {A : Nat → Prop} : ∀ (t : Ty) (x : t.den) (cs : List Value), t.rd w A x cs → t.sane x
  | .int k, n, cs, h => by show kmin k ≤ n ∧ n ≤ kmax k; rw [kmin_eq, kmax_eq]; exact h.2
  | .bool, _, _, _ => True.intro
  | .str, _, _, h => h.2
  | .slice e, l, cs, h => by
    obtain ⟨ao, cap, h0, h1, h2, h3, h4⟩ := h
    refine ⟨Nat.le_trans h1 h2, fun x hx => ?_⟩
    obtain ⟨i, hi, rfl⟩ := List.mem_iff_getElem.1 hx
    obtain ⟨b, off, es, _, _, _, k3, _⟩ := h4 i hi
    exact rd_sane e _ _ k3
  | .pair a b, x, cs, h => by
    obtain ⟨c1, c2, h0, h1, h2⟩ := h
    exact ⟨rd_sane a _ _ h1, rd_sane b _ _ h2⟩
  | .st a, x, cs, h => rd_sane a x cs h
@[reducible] def saneAll : (ts : List Ty) → dens ts → Prop
  | [], _ => True
  | t :: ts, x => t.sane x.1 ∧ saneAll ts x.2
theorem leaves_sane {w : World} {G : Gh} {A : Nat → Prop} : ∀ (t : Ty) (x : t.den) (vs : List Value), relL w G A (t.leaves x) vs → t.sane x
  | .int k, x, vs, h => by obtain ⟨v, r, _, h1, _⟩ := h; exact rd_sane (w := w) (A := A) (.int k) x _ h1
  | .bool, x, vs, h => True.intro
  | .str, x, vs, h => by obtain ⟨v, r, _, h1, _⟩ := h; exact rd_sane (w := w) (A := A) .str x _ h1
  | .slice e, x, vs, h => by obtain ⟨v, r, _, h1, _⟩ := h; exact rd_sane (w := w) (A := A) (.slice e) x _ h1
  | .pair a b, x, vs, h => by
    have e : vs = vs.take (a.leaves x.1).length ++ vs.drop (a.leaves x.1).length := (List.take_append_drop _ _).symm
    have h1 := relL_take (a.leaves x.1).length h
    have h2 := relL_drop (a.leaves x.1).length h
    have e1 : ((Ty.pair a b).leaves x).take (a.leaves x.1).length = a.leaves x.1 := by show (a.leaves x.1 ++ b.leaves x.2).take _ = _; rw [List.take_left]
    have e2 : ((Ty.pair a b).leaves x).drop (a.leaves x.1).length = b.leaves x.2 := by show (a.leaves x.1 ++ b.leaves x.2).drop _ = _; rw [List.drop_left]
    rw [e1] at h1
    rw [e2] at h2
    exact ⟨leaves_sane a _ _ h1, leaves_sane b _ _ h2⟩
  | .st a, x, vs, h => leaves_sane a x vs h
theorem args_sane {w : World} {G : Gh} {A : Nat → Prop} : ∀ (ts : List Ty) (xs : dens ts) (vs : List Value), relAs w G A (argAV ts xs) vs → saneAll ts xs
  | [], _, _, _ => True.intro
  | t :: ts, x, vs, h => by
    obtain ⟨v, r, _, ⟨us, k1, _⟩, h2⟩ := h
    exact ⟨leaves_sane t x.1 us k1, args_sane ts x.2 r h2⟩

/-! ### specs -/
/-- the answer is data; bw: arguments may be rows that the caller owns (then the answer is flat) -/
def pureSp (bw : Bool) (ts : List Ty) (pre : dens ts → Prop) (res : dens ts → AV) : SpecF := fun _ args hp => match argsOf (match bw with | true => hp | false => fun _ => none) ts args with
  | some xs => some ⟨pre xs, res xs, [], []⟩
  | none => none
/-- the answer is a row that the caller owns from then on -/
def ownSp (bw : Bool) (ts : List Ty) (E : TypeId) (t : Ty) (pre : dens ts → Prop) (res : dens ts → List t.den) : SpecF := fun d args hp => match argsOf (match bw with | true => hp | false => fun _ => none) ts args with
  | some xs => some ⟨pre xs, .v false [.o d], [.put d (.row E t (res xs)), .scr d d], [d]⟩
  | none => none

theorem asList_loc {hp hp' : Nat → Option Ob} {t : Ty} {l : Lf} (h : ∀ b ∈ l.names, hp' b = hp b) : asList hp' t l = asList hp t l := by
  cases l with
  | o b => simp only [asList, h b (by simp [Lf.names])]
  | vw b lo n s => simp only [asList, h b (by simp [Lf.names])]
  | _ => rfl
theorem argOf_loc {hp hp' : Nat → Option Ob} {t : Ty} {a : AV} (h : ∀ b ∈ a.names, hp' b = hp b) : argOf hp' t a = argOf hp t a := by
  cases a with
  | v g ls =>
    cases t with
    | slice e =>
      cases g with
      | true => rfl
      | false => match ls, h with
        | [], _ => rfl
        | [l], h => exact asList_loc (fun b hb => h b (by simpa [AV.names] using hb))
        | _ :: _ :: _, _ => rfl
    | pair a b => rfl
    | st a => cases a with
      | slice e => cases g with
        | false => rfl
        | true => match ls, h with
          | [], _ => rfl
          | [l], h => exact asList_loc (fun b hb => h b (by simpa [AV.names] using hb))
          | _ :: _ :: _, _ => rfl
      | _ => rfl
    | _ => cases g with
      | true => rfl
      | false => match ls, h with
        | [], _ => rfl
        | [l], h => cases l with
          | d t x => cases t <;> rfl
          | _ => rfl
        | l :: _ :: _, _ => cases l with
          | d t x => cases t <;> rfl
          | _ => rfl
  | tu es => cases t with
    | st a => cases a <;> rfl
    | _ => rfl
  | un => cases t with
    | st a => cases a <;> rfl
    | _ => rfl
theorem argsOf_loc {hp hp' : Nat → Option Ob} : ∀ (ts : List Ty) (aas : List AV), (∀ b ∈ aas.flatMap AV.names, hp' b = hp b) → argsOf hp' ts aas = argsOf hp ts aas
  | [], [], _ => rfl
  | [], _ :: _, _ => rfl
  | _ :: _, [], _ => rfl
  | t :: ts, a :: aas, h => by
    unfold argsOf
    rw [argOf_loc (fun b hb => h b (by simp only [List.flatMap_cons, List.mem_append]; exact .inl hb)), argsOf_loc ts aas (fun b hb => h b (by simp only [List.flatMap_cons, List.mem_append]; exact .inr hb))]
theorem pureSp_loc (bw : Bool) (ts : List Ty) (pre : dens ts → Prop) (res : dens ts → AV) : SpLoc (pureSp bw ts pre res) := by
  intro d args hp hp' h
  unfold pureSp
  cases bw with
  | true => dsimp only; rw [argsOf_loc ts args h]
  | false => rfl
theorem ownSp_loc (bw : Bool) (ts : List Ty) (E : TypeId) (t : Ty) (pre : dens ts → Prop) (res : dens ts → List t.den) : SpLoc (ownSp bw ts E t pre res) := by
  intro d args hp hp' h
  unfold ownSp
  cases bw with
  | true => dsimp only; rw [argsOf_loc ts args h]
  | false => rfl

def frOf (bw : Bool) (F : Fr) (hp : Nat → Option Ob) (G : Gh) (w : World) (n : Nat) : Fr := ⟨w, fun k => bw = true ∨ Okay F hp G k, fun _ => False, fun _ => undef⟩
theorem Only.none {S : Nat → Prop} {w x y : World} (h : Only S w x) (g : Only (fun _ => False) x y) : Only S w y :=
  ⟨g.os.trans h.os, g.tape.trans h.tape, g.output.trans h.output, Nat.le_trans h.size g.size, fun k hk hs => (g.block k (Nat.lt_of_lt_of_le hk h.size) id).trans (h.block k hk hs)⟩
theorem frOf_rep (bw : Bool) {F : Fr} {hp : Nat → Option Ob} {G : Gh} {w : World} (h : RepH F hp G w) (n : Nat) : RepH (frOf bw F hp G w n) (hget []) G w :=
  ⟨fun b ob h => (by cases h), fun b c ob oc _ h => (by cases h), fun b ob h => (by cases h), Only.refl _ _, fun _ h => h.elim, fun w' ho => h.tb w' (h.fr.none ho)⟩
theorem frOf_okay {bw : Bool} {n : Nat} {F : Fr} {hp : Nat → Option Ob} {G G' : Gh} {w : World} (h : RepH F hp G w) (hb : bw = false) {hq : Nat → Option Ob} {k : Nat} (hk : Okay (frOf bw F hp G w n) hq G' k) : Okay F hp G k := by
  subst hb
  rcases hk.1 with q | q
  · rcases q with q | q
    · cases q
    · exact q
  · refine ⟨.inr (Nat.le_trans h.size q), ?_⟩
    intro hf
    have := h.lt hf
    have q : w.heap.size ≤ k := q
    omega
theorem frOf_args {bw : Bool} {n : Nat} {F : Fr} {hp : Nat → Option Ob} {G : Gh} {w : World} (h : RepH F hp G w) {ts : List Ty} {aas : List AV} {xs : dens ts} {vs : List Value} (e : argsOf (match bw with | true => hp | false => fun _ => none) ts aas = some xs) (ha : relAs w G (Okay F hp G) aas vs) :
    relAs w G (Okay (frOf bw F hp G w n) (hget []) G) (argAV ts xs) vs := by
  have hno : ∀ k, ¬ Foot (hget []) G k := by rintro k ⟨b, ob, h1, _⟩; cases h1
  refine argsOf_rel h (fun k hk => ⟨.inl (.inr hk), hno k⟩) ?_ ts aas xs vs e ha
  cases bw with
  | true => exact .inl ⟨fun k => ⟨.inl (.inl rfl), hno k⟩, rfl⟩
  | false => exact .inr rfl

theorem pureSp_ok {P : Program} {E : Env} (hE : E.Fine P) {f : FuncId} {fn : Func} (hf : P.funcs[f]? = some fn) {bw : Bool} {ts : List Ty} {pre : dens ts → Prop} {res : dens ts → AV} (hpl : ∀ xs, pre xs → (res xs).plain bw = true)
    (h : ∀ xs, saneAll ts xs → pre xs → fnM E fn (argAV ts xs) [] (fun r _ => r = res xs)) : SpecOk P f (pureSp bw ts pre res) := by
  intro d args hp r hr hside
  unfold pureSp at hr
  split at hr
  · rename_i xs hxs
    cases hr
    refine ⟨.inl rfl, fun F G w vals hrep ha => ?_⟩
    refine Calls.mono (fnM_calls hE hf (h xs (args_sane _ _ _ (frOf_args (n := 0) hrep hxs ha)) hside) (frOf_rep bw hrep fn.ntmps) (frOf_args hrep hxs ha)) ?_
    rintro e w' ⟨v, r, hl', G', rfl, rfl, k1, k2⟩
    obtain ⟨m1, m2⟩ := hrep.after (w' := w') k1.fr
    exact ⟨v, rfl, G, m2, m1, plain_av (fun hb t x cs hh => Ty.rd_mono (Nat.le_refl _) (fun b hb' _ => ⟨frOf_okay hrep hb hb', rfl⟩) t x cs hh) (hpl xs hside) k2⟩
  · cases hr

theorem ownSp_ok {P : Program} {E : Env} (hE : E.Fine P) {f : FuncId} {fn : Func} (hf : P.funcs[f]? = some fn) {bw : Bool} {ts : List Ty} {T : TypeId} {t : Ty} {pre : dens ts → Prop} {res : dens ts → List t.den} (hfl : bw = true → t.flat = true)
    (h : ∀ xs, saneAll ts xs → pre xs → fnM E fn (argAV ts xs) [] (fun r hl => (∃ k, r = .v false [.o k] ∧ hget hl k = some (.row T t (res xs))) ∨ r = .v false [.nl] ∧ res xs = [])) : SpecOk P f (ownSp bw ts T t pre res) := by
  intro d args hp r hr hside
  unfold ownSp at hr
  split at hr
  · rename_i xs hxs
    cases hr
    refine ⟨.inr rfl, fun F G w vals hrep ha => ?_⟩
    refine Calls.mono (fnM_calls hE hf (h xs (args_sane _ _ _ (frOf_args (n := 0) hrep hxs ha)) hside) (frOf_rep bw hrep fn.ntmps) (frOf_args hrep hxs ha)) ?_
    rintro e w' ⟨v, r, hl', G', rfl, hk, k1, k2⟩
    have ho : Only (fun _ => False) w w' := k1.fr
    have hrow : ∃ vs, rdL w' (Okay (frOf bw F hp G w fn.ntmps) (hget hl') G') t (res xs) vs ∧ w'.ownsRow 0 T t.size v (res xs).length vs ∧ ∀ k, v.ownBlock = some k → w.heap.size ≤ k ∧ k < w'.heap.size ∧ ¬ Okay (frOf bw F hp G w fn.ntmps) (hget hl') G' k := by
      rcases hk with ⟨b, rfl, hb⟩ | ⟨rfl, hn⟩
      · have hv := AV.one_rel (x := .v false [.o b]) rfl k2
        obtain ⟨hv1, hv2⟩ := hv
        obtain ⟨vs, s1, s2, s3⟩ := k1.sat b _ hb
        subst hv1
        refine ⟨vs, s1, s2, fun k hk => ?_⟩
        have hfk := (s3 k).2 hk
        obtain ⟨q1, q2⟩ := k1.bd b _ hb k hfk
        refine ⟨q2.resolve_left id, q1, fun q => q.2 ⟨b, _, hb, hfk⟩⟩
      · have hv := AV.one_rel (x := .v false [.nl]) rfl k2
        obtain rfl := (show v = _ from hv)
        rw [hn]
        exact ⟨[], rfl, World.ownsRow_nil _ _ _ _, fun k hk => by cases hk⟩
    obtain ⟨vs, s1, s2, s3⟩ := hrow
    obtain ⟨G2, g1, g2, g3⟩ := grow_step hrep d d v (fun k => v.ownBlock = some k) (.row T t (res xs))
      (fun k hk hl => absurd (s3 k hk).1 (by omega))
      (fun k hk => (s3 k hk).2.1)
      ⟨ho.os, ho.tape, ho.output, ho.size, fun k hk _ => ho.block k hk id⟩
      (fun A' G2 q1 q2 q3 q4 => by
        refine ⟨vs, ?_, by rw [q1]; exact s2, fun k => by rw [q1]; exact q2 k⟩
        cases hb : bw with
        | true =>
          clear s2 s3
          have hflat := hfl hb
          generalize res xs = l at s1
          induction l generalizing vs with
          | nil => exact s1
          | cons x l ih => obtain ⟨c, r, c1, c2, c3⟩ := s1; exact ⟨c, r, c1, flat_rd t x c hflat c2, ih r c3⟩
        | false =>
          refine rdL_mono (Nat.le_refl _) (fun b hb' hl => ⟨?_, rfl⟩) s1
          rcases Nat.lt_or_ge b w.heap.size with hlt | hge
          · exact q4.keepA b hlt (frOf_okay hrep hb hb')
          · exact q3 b hge hl (fun hk => (s3 b hk).2.2 hb'))
    exact ⟨v, rfl, G2, g1, g2, AV.rel_of ⟨g3.symm, owns_one s2⟩⟩
  · cases hr

/-! part SxZ -/
theorem Wk.trans {n : Nat} {s1 s2 s3 : List SEnt} {h1 h2 h3 : List HEnt} (a : Wk n s1 h1 s2 h2) (b : Wk n s2 h2 s3 h3) : Wk n s1 h1 s3 h3 := by
  intro F G c w h
  obtain ⟨G', h'⟩ := a F G c w h
  exact b F G' c w h'
theorem Wk.refl {n : Nat} {s : List SEnt} {h : List HEnt} : Wk n s h s h := fun _ G _ _ h => ⟨G, h⟩

/-- a slot that holds a nil slice holds a row of length 0 that is owned, with a name d that nothing else has -/
theorem Wk.nilrow {n : Nat} {sl : List SEnt} {hl : List HEnt} (t d : Nat) (E : TypeId) (ty : Ty) (h : look sl t = .v false [.nl]) :
    Wk n sl hl (.put t (.v false [.o d]) :: .scr d :: sl) (.put d (.row E ty []) :: .scr d d :: hl) := by
  intro F G a w hr
  obtain ⟨G', g1, g2, g3⟩ := grow_step (w' := w) hr.hp d d (.slice none 0 0) (fun _ => False) (.row E ty []) (fun _ hk => hk.elim) (fun _ hk => hk.elim) (Only.refl _ _)
    (fun A' G' q1 q2 _ _ => ⟨[], rfl, by rw [q1]; exact World.ownsRow_nil _ _ _ _, fun k => by rw [q1, q2]; exact ⟨fun hh => hh.elim, fun hh => by cases hh⟩⟩)
  have hh : hget (.put d (.row E ty []) :: .scr d d :: hl) = upd (scrH (hget hl) d d) d (some (.row E ty [])) := hget_app [.put d (.row E ty []), .scr d d] hl
  refine ⟨G', hr.df, hr.sz, hr.lm, fun k => ?_, by rw [hh]; exact g2⟩
  rw [hh, look_put]
  by_cases hk : k = t
  · subst hk
    rw [upd_same]
    have := hr.sl k
    rw [h] at this
    have := AV.one_rel (x := .v false [.nl]) rfl this
    obtain hv := (show vl F a k = _ from this)
    exact AV.rel_of ⟨by rw [hv, g3], by rw [hv]; rfl⟩
  · rw [upd_ne _ _ hk]
    exact g1.avS (hr.sl k)
/-- a contract that is known in another way -/
theorem callsSp_ok {P : Program} {f : FuncId} {bw : Bool} {ts : List Ty} {pre : dens ts → Prop} {res : dens ts → AV} (hpl : ∀ xs, pre xs → (res xs).plain bw = true)
    (h : ∀ xs w (G : Gh) (A : Nat → Prop) vals, saneAll ts xs → pre xs → relAs w G A (argAV ts xs) vals → Calls P f vals.toArray w fun e w' => ∃ v, e = .returned v ∧ Only (fun _ => False) w w' ∧ (res xs).rel w' G A v) : SpecOk P f (pureSp bw ts pre res) := by
  intro d args hp r hr hside
  unfold pureSp at hr
  split at hr
  · rename_i xs hxs
    cases hr
    refine ⟨.inl rfl, fun F G w vals hrep ha => ?_⟩
    refine Calls.mono (h xs w G _ vals (args_sane _ _ _ (frOf_args (n := 0) hrep hxs ha)) hside (frOf_args (n := 0) hrep hxs ha)) ?_
    rintro e w' ⟨v, rfl, k1, k2⟩
    obtain ⟨m1, m2⟩ := hrep.after k1
    exact ⟨v, rfl, G, m2, m1, plain_av (fun hb t x cs hh => Ty.rd_mono (Nat.le_refl _) (fun b hb' _ => ⟨frOf_okay hrep hb hb', rfl⟩) t x cs hh) (hpl xs hside) k2⟩
  · cases hr
/-- a contract that is known in another way, with a row as the answer -/
theorem callsOwn_ok {P : Program} {f : FuncId} {bw : Bool} {ts : List Ty} {T : TypeId} {t : Ty} {pre : dens ts → Prop} {res : dens ts → List t.den} (hfl : t.flat = true)
    (h : ∀ xs w (G : Gh) (A : Nat → Prop) vals, saneAll ts xs → pre xs → relAs w G A (argAV ts xs) vals → Calls P f vals.toArray w fun e w' => ∃ v vs, e = .returned v ∧ Below w.heap.size w w' ∧ rdL w' (fun _ => False) t (res xs) vs ∧ w'.ownsRow w.heap.size T t.size v (res xs).length vs) : SpecOk P f (ownSp bw ts T t pre res) := by
  intro d args hp r hr hside
  unfold ownSp at hr
  split at hr
  · rename_i xs hxs
    cases hr
    refine ⟨.inr rfl, fun F G w vals hrep ha => ?_⟩
    refine Calls.mono (h xs w G _ vals (args_sane _ _ _ (frOf_args (n := 0) hrep hxs ha)) hside (frOf_args (n := 0) hrep hxs ha)) ?_
    rintro e w' ⟨v, vs, rfl, ho, s1, s2⟩
    have hge : ∀ k, v.ownBlock = some k → w.heap.size ≤ k := by
      intro k hk
      rcases s2.2 with ⟨rfl, _⟩ | ⟨g, cap, cur, rfl, hg, _⟩
      · cases hk
      · cases hk; exact hg
    have s3 := owns_low s2 (Nat.zero_le _)
    obtain ⟨G2, g1, g2, g3⟩ := grow_step hrep d d v (fun k => v.ownBlock = some k) (.row T t (res xs))
      (fun k hk hl => absurd (hge k hk) (by omega))
      (fun k hk => owns_foot s3 hk)
      ⟨ho.os, ho.tape, ho.output, ho.size, fun k hk _ => ho.block k hk⟩
      (fun A' G2 q1 q2 q3 q4 => by
        refine ⟨vs, ?_, by rw [q1]; exact s3, fun k => by rw [q1]; exact q2 k⟩
        clear s2 s3 hge
        generalize res xs = l at s1
        induction l generalizing vs with
        | nil => exact s1
        | cons x l ih => obtain ⟨c, r, c1, c2, c3⟩ := s1; exact ⟨c, r, c1, flat_rd t x c hfl c2, ih r c3⟩)
    exact ⟨v, rfl, G2, g1, g2, AV.rel_of ⟨g3.symm, owns_one s3⟩⟩
  · cases hr
theorem rdL_strs {w : World} {A : Nat → Prop} : ∀ {l : List ByteArray} {vs : List Value}, rdL w A .str l vs → vs = l.map Value.string
  | [], vs, h => h
  | x :: xs, vs, h => by
    obtain ⟨c, r, rfl, h1, h2⟩ := h
    rw [rdL_strs h2, h1.1]
    rfl
theorem strs_of {w : World} {G : Gh} {A : Nat → Prop} {l : List ByteArray} {v : Value} (h : (AV.v false [.d (.slice .str) l]).rel w G A v) : Strs w v l := by
  have h : (Ty.slice .str).rd w A l [v] := AV.one_rel (x := .v false [.d (.slice .str) l]) rfl h
  have hs := rd_sane (.slice .str) l _ h
  obtain ⟨vs, h1, h2⟩ := rd_reads h
  rw [rdL_strs h1] at h2
  exact Strs.of h2 hs.2

/-! part SxZa -/
theorem Wk.freeze {n : Nat} {sl : List SEnt} {hl hl' : List HEnt} (t b : Nat) {E : TypeId} {ty : Ty} {l : List ty.den} (h1 : look sl t = .v false [.o b]) (h2 : hget hl b = some (.row E ty l)) (hk : keepH (hget hl) hl') (hb : hget hl' b = none) :
    Wk n sl hl (.put t (.v false [.d (.slice ty) l]) :: sl) hl' := by
  intro F G a w h
  have hs := keepH_get hk
  obtain ⟨hx, hr⟩ := sub_step h.hp hs
  refine ⟨G, h.df, h.sz, h.lm, fun k => ?_, hr⟩
  rw [look_put]
  by_cases e : k = t
  · subst e
    rw [upd_same]
    have hv := h.sl k
    rw [h1] at hv
    obtain ⟨hv1, hv2⟩ := AV.one_rel (x := .v false [.o b]) rfl hv
    obtain ⟨vs, s1, s2, s3⟩ := h.hp.sat b _ h2
    rw [hv1]
    refine AV.rel_of (reads_rdB (rdL_mono (Nat.le_refl _) (fun k k1 k2 => ⟨hx.keepA k k2 k1, rfl⟩) s1) s2 fun k hk' => ?_)
    have hf := (s3 k).2 hk'
    refine ⟨?_, ?_⟩
    · rcases (h.hp.bd b _ h2 k hf).2 with q | q
      · exact .inl (h.hp.zs k q)
      · exact .inr q
    · rintro ⟨c, oc, q1, q2⟩
      by_cases hcb : c = b
      · subst hcb; rw [hb] at q1; cases q1
      · exact h.hp.dj c b oc _ hcb (hs c oc q1) h2 k q2 hf
  · rw [upd_ne _ _ e]
    exact hx.av (fun _ _ => by simp) (h.sl k)

/-! part SxZb -/
/-! ### other names -/
def Lf.ren (f : Nat → Nat) : Lf → Lf
  | .p b off => .p (f b) off
  | .o b => .o (f b)
  | .pe b i s k => .pe (f b) i s k
  | .px b i s k => .px (f b) i s k
  | .vw b i s k => .vw (f b) i s k
  | .fn g c => .fn g (c.map f)
  | x => x
def AV.ren (f : Nat → Nat) : AV → AV
  | .v a ls => .v a (ls.map (Lf.ren f))
  | .tu es => .tu (es.map fun e => (e.1, e.2.map (Lf.ren f)))
  | .un => .un
def Ob.ren (f : Nat → Nat) : Ob → Ob
  | .box T cs => .box T (cs.map (Lf.ren f))
  | .arr E n cs => .arr E n (cs.map (Lf.ren f))
  | .row E t l => .row E t l
  | .rox E t l1 cs l2 => .rox E t l1 (cs.map (Lf.ren f)) l2
  | .bld T e l => .bld T e l

theorem unren_lf {w : World} {G G' : Gh} {A : Nat → Prop} {f : Nat → Nat} {x : Lf} {v : Value} (hn : ∀ b, G'.r b = G.r (f b)) (h : (x.ren f).rel w G A v) : x.rel w G' A v := by
  cases x with
  | p b off => obtain ⟨g, h1, h2⟩ := h; exact ⟨g, (hn b).trans h1, h2⟩
  | o b => exact ⟨h.1.trans (hn b).symm, h.2⟩
  | pe b i s k => obtain ⟨g, h1, h2⟩ := h; exact ⟨g, by rw [hn b]; exact h1, h2⟩
  | px b i s k => obtain ⟨g, h1, h2⟩ := h; exact ⟨g, by rw [hn b]; exact h1, h2⟩
  | vw b i s k => obtain ⟨ao, len, cap, ao', h1, h2⟩ := h; exact ⟨ao, len, cap, ao', by rw [hn b]; exact h1, h2⟩
  | fn g c =>
    obtain ⟨gs, h1, h2, h3⟩ := h
    rw [List.length_map] at h2
    refine ⟨gs, h1, h2, fun i hi hi' => ?_⟩
    have := h3 i (by rw [List.length_map]; exact hi) hi'
    rw [List.getElem_map] at this
    exact (hn _).trans this
  | _ => exact h
theorem unren_ls {w : World} {G G' : Gh} {A : Nat → Prop} {f : Nat → Nat} (hn : ∀ b, G'.r b = G.r (f b)) : ∀ {xs : List Lf} {vs : List Value}, relL w G A (xs.map (Lf.ren f)) vs → relL w G' A xs vs
  | [], _, h => h
  | x :: xs, vs, h => by
    obtain ⟨v, r, h1, h2, h3⟩ := h
    exact ⟨v, r, h1, unren_lf hn h2, unren_ls hn h3⟩
theorem unren_es {w : World} {G G' : Gh} {A : Nat → Prop} {f : Nat → Nat} (hn : ∀ b, G'.r b = G.r (f b)) : ∀ {xs : List (Bool × List Lf)} {vs : List Value}, relT w G A (xs.map fun e => (e.1, e.2.map (Lf.ren f))) vs → relT w G' A xs vs
  | [], _, h => h
  | x :: xs, vs, h => by
    obtain ⟨v, r, h1, ⟨us, k1, k2, k3⟩, h3⟩ := h
    exact ⟨v, r, h1, ⟨us, unren_ls hn k1, k2, k3⟩, unren_es hn h3⟩
theorem unren_av {w : World} {G G' : Gh} {A : Nat → Prop} {f : Nat → Nat} {x : AV} {v : Value} (hn : ∀ b, G'.r b = G.r (f b)) (h : (x.ren f).rel w G A v) : x.rel w G' A v := by
  cases x with
  | v a ls => obtain ⟨us, k1, k2, k3⟩ := h; exact ⟨us, unren_ls hn k1, k2, k3⟩
  | tu es => obtain ⟨vs, h1, h2⟩ := h; exact ⟨vs, h1, unren_es hn h2⟩
  | un => trivial
theorem unren_sat {w : World} {G G' : Gh} {A : Nat → Prop} {f : Nat → Nat} {b : Nat} {ob : Ob} (hn : ∀ b, G'.r b = G.r (f b)) (hf : ∀ k, G'.f b k ↔ G.f (f b) k) (h : Sat w G A (f b) (ob.ren f)) : Sat w G' A b ob := by
  cases ob with
  | box T cs =>
    obtain ⟨g, vs, h1, h2, h3, h4⟩ := h
    exact ⟨g, vs, (hn b).trans h1, h2, unren_ls hn h3, fun k => (hf k).trans (h4 k)⟩
  | arr E n cs =>
    obtain ⟨g, vs, h1, h0, h2, h3, h4⟩ := h
    exact ⟨g, vs, (hn b).trans h1, h0, h2, unren_ls hn h3, fun k => (hf k).trans (h4 k)⟩
  | row E t l =>
    obtain ⟨vs, h1, h2, h3⟩ := h
    exact ⟨vs, h1, by rw [hn b]; exact h2, fun k => by rw [hn b]; exact (hf k).trans (h3 k)⟩
  | rox E t l1 cs l2 =>
    obtain ⟨v1, c, v2, h1, h2, h3, h4, h5, h6⟩ := h
    exact ⟨v1, c, v2, h1, unren_ls hn h2, h3, h4, by rw [hn b]; exact h5, fun k => by rw [hn b]; exact (hf k).trans (h6 k)⟩
  | bld T e l =>
    obtain ⟨g, p, v, h1, h2, h3, h4, h5, h6⟩ := h
    exact ⟨g, p, v, (hn b).trans h1, h2, h3, h4, h5, fun k => (hf k).trans (h6 k)⟩

/-- the old name of a name -/
def bk : List (Nat × Nat) → Nat → Nat
  | [], c => c
  | (a, b) :: r, c => bif Nat.beq c a then b else bk r c
def keepSR (f : Nat → AV) (ρ : List (Nat × Nat)) : List SEnt → Prop
  | [] => True
  | .put t x :: r => f t = x.ren (bk ρ) ∧ keepSR f ρ r
  | .scr _ :: _ => False
  | .mark :: r => keepSR (fun k => f (k + SUS)) ρ r
def keepHR (f : Nat → Option Ob) (ρ : List (Nat × Nat)) : List HEnt → Prop
  | [] => True
  | .put b ob :: r => f (bk ρ b) = some (ob.ren (bk ρ)) ∧ keepHR f ρ r
  | .scr _ _ :: _ => False
def hkeys : List HEnt → List Nat
  | [] => []
  | .put b _ :: r => b :: hkeys r
  | .scr _ _ :: r => hkeys r
def ndup : List Nat → Bool
  | [] => true
  | x :: xs => !inL xs x && ndup xs
theorem keepSR_look {f : Nat → AV} {ρ : List (Nat × Nat)} : ∀ {sl : List SEnt}, keepSR f ρ sl → ∀ t, f t = (look sl t).ren (bk ρ) ∨ look sl t = .un
  | [], _, t => .inr rfl
  | .put t x :: r, h, k => by
    show f k = (bif Nat.beq k t then x else look r k).ren (bk ρ) ∨ (bif Nat.beq k t then x else look r k) = .un
    by_cases hk : k = t
    · subst hk; rw [beq_self]; exact .inl h.1
    · rw [beq_ne hk]; exact keepSR_look h.2 k
  | .scr d :: r, h, k => h.elim
  | .mark :: r, h, k => by
    rw [look_mark]
    by_cases hk : k < SUS
    · rw [if_pos hk]; exact .inr rfl
    · rw [if_neg hk]
      have := keepSR_look (f := fun k => f (k + SUS)) h (k - SUS)
      simp only [show k - SUS + SUS = k by omega] at this
      exact this
theorem keepHR_get {f : Nat → Option Ob} {ρ : List (Nat × Nat)} : ∀ {hl : List HEnt}, keepHR f ρ hl → ∀ b ob, hget hl b = some ob → f (bk ρ b) = some (ob.ren (bk ρ)) ∧ b ∈ hkeys hl
  | [], _, b, ob, h => by cases h
  | .put b' ob' :: r, hk, b, ob, h => by
    unfold hget at h
    by_cases hb : b = b'
    · subst hb; rw [beq_self] at h; cases h; exact ⟨hk.1, by simp [hkeys]⟩
    · rw [beq_ne hb] at h
      obtain ⟨k1, k2⟩ := keepHR_get hk.2 b ob h
      exact ⟨k1, by simp [hkeys, k2]⟩
  | .scr _ _ :: _, hk, _, _, _ => hk.elim
theorem ndup_inj {ρ : List (Nat × Nat)} : ∀ {l : List Nat}, ndup (l.map (bk ρ)) = true → ∀ a ∈ l, ∀ b ∈ l, bk ρ a = bk ρ b → a = b
  | [], _, a, ha, _, _, _ => by cases ha
  | x :: xs, h, a, ha, b, hb, e => by
    rw [List.map_cons] at h
    obtain ⟨h1, h2⟩ := Bool.and_eq_true_iff.1 h
    have h1 : inL (xs.map (bk ρ)) (bk ρ x) = false := by simpa using h1
    rw [inL_false] at h1
    rcases List.mem_cons.1 ha with rfl | ha
    · rcases List.mem_cons.1 hb with rfl | hb
      · rfl
      · exact absurd (List.mem_map.2 ⟨b, hb, e.symm⟩) h1
    · rcases List.mem_cons.1 hb with hbx | hb
      · subst hbx; exact absurd (show bk ρ b ∈ xs.map (bk ρ) from List.mem_map.2 ⟨a, by assumption, e⟩) h1
      · exact ndup_inj h2 a ha b hb e

theorem Wk.ren {n : Nat} {sl sl' : List SEnt} {hl hl' : List HEnt} (ρ : List (Nat × Nat)) (hd : ndup ((hkeys hl').map (bk ρ)) = true) (h1 : keepSR (look sl) ρ sl') (h2 : keepHR (hget hl) ρ hl') : Wk n sl hl sl' hl' := by
  intro F G a w h
  let G' : Gh := ⟨fun c => G.r (bk ρ c), fun c k => G.f (bk ρ c) k⟩
  have hk := keepHR_get h2
  have hfoot : ∀ k, Foot (hget hl') G' k → Foot (hget hl) G k := by
    rintro k ⟨c, oc, q1, q2⟩
    exact ⟨bk ρ c, _, (hk c oc q1).1, q2⟩
  have hx : Ext (Foot (hget hl) G) (Okay F (hget hl) G) G w (Okay F (hget hl') G') G w [] := ⟨Only.refl _ _, fun k _ ⟨q1, q2⟩ => ⟨q1, fun q3 => q2 (hfoot k q3)⟩, Okay.apart, fun _ _ => rfl⟩
  refine ⟨G', h.df, h.sz, h.lm, fun t => ?_, ⟨fun c oc hc => ?_, fun c1 c2 o1 o2 hne q1 q2 k => ?_, fun c oc hc k hk' => ?_, h.hp.fr, h.hp.zs, h.hp.tb⟩⟩
  · rcases keepSR_look h1 t with e | e
    · have := hx.av (fun _ _ => by simp) (h.sl t)
      rw [e] at this
      exact unren_av (f := bk ρ) (fun _ => rfl) this
    · rw [e]; trivial
  · obtain ⟨q1, q2⟩ := hk c oc hc
    exact unren_sat (f := bk ρ) (fun _ => rfl) (fun _ => Iff.rfl) ((h.hp.sat _ _ q1).ext hx (by simp) (by simp) (fun _ _ => rfl) (fun _ => Iff.rfl))
  · obtain ⟨a1, a2⟩ := hk c1 o1 q1
    obtain ⟨b1, b2⟩ := hk c2 o2 q2
    exact h.hp.dj _ _ _ _ (fun e => hne (ndup_inj hd _ a2 _ b2 e)) a1 b1 k
  · exact h.hp.bd _ _ (hk c oc hc).1 k hk'

/-! ### packing -/
theorem asList_rd {F : Fr} {hp : Nat → Option Ob} {G : Gh} {w : World} {A' : Nat → Prop} {e : Ty} {x : Lf} {l : List e.den} {v : Value} (he : asList hp e x = some l) (h : RepH F hp G w) (hx : x.rel w G (Okay F hp G) v)
    (hA : ∀ k, Okay F hp G k → A' k) (hn : ∀ b ∈ x.names, ∀ ob, hp b = some ob → (∃ E t l, ob = .row E t l) ∨ (∃ E n cs, ob = .arr E n cs) → ∀ k, G.f b k → A' k) : (Ty.slice e).rd w A' l [v] := by
  have mono : ∀ {t : Ty} {l : List t.den} {vs : List Value}, rdL w (Okay F hp G) t l vs → rdL w A' t l vs := fun hh => rdL_mono (Nat.le_refl _) (fun b hb _ => ⟨hA b hb, rfl⟩) hh
  cases x with
  | nl =>
    cases he
    obtain rfl := (show v = _ from hx)
    exact ⟨none, 0, rfl, Nat.le_refl _, Nat.zero_le _, fun _ => rfl, fun i hi => by simp at hi⟩
  | d u y =>
    unfold asList at he
    dsimp only at he
    split at he
    · rename_i hu
      subst hu
      cases he
      exact Ty.rd_mono (Nat.le_refl _) (fun b hb _ => ⟨hA b hb, rfl⟩) (.slice e) _ _ hx
    · cases he
  | o b =>
    have hob : ∃ E, rowE hp (.o b) E = true ∧ ownOf hp e 0 (.o b) = some (b, l) ∧ ∃ ob, hp b = some ob ∧ ((∃ E t l, ob = .row E t l) ∨ (∃ E n cs, ob = .arr E n cs)) := by
      unfold asList at he
      dsimp only at he
      split at he
      · rename_i E u l' hb
        split at he
        · rename_i hu
          cases he
          refine ⟨E, by simp only [rowE, hb]; exact Nat.beq_refl E, ?_, _, hb, .inl ⟨_, _, _, rfl⟩⟩
          simp only [ownOf, hb]
          rw [dif_pos hu]
        · cases he
      · rename_i E n cs hb
        refine ⟨E, by simp only [rowE, hb]; exact Nat.beq_refl E, ?_, _, hb, .inr ⟨_, _, _, rfl⟩⟩
        simp only [ownOf, hb, he]
        rfl
      · cases he
    obtain ⟨E, h1, h2, ob, h3, h4⟩ := hob
    obtain ⟨vs, k1, k2, k3⟩ := ownOf_owns h2 h1 h hx
    refine reads_rdB (mono k1) k2 fun k hk => ?_
    obtain ⟨o0, q1, q2⟩ := k3 k hk
    exact hn b (by simp [Lf.names]) ob h3 h4 k q2
  | vw b lo n s =>
    have hob : ∃ E t l, hp b = some (.row E t l) := by
      unfold asList at he
      dsimp only at he
      split at he
      · rename_i E u l' hb; exact ⟨_, _, _, hb⟩
      · cases he
    obtain ⟨E, t, l0, hb⟩ := hob
    obtain ⟨vs0, _, _, k3⟩ := h.sat b _ hb
    obtain ⟨vs, r1, r2⟩ := asList_reads he h hx
    obtain ⟨ao, len, cap, ao', h1, h2, rfl, h4, h5, h6⟩ := hx
    refine reads_rdA ⟨vs, mono r1, r2⟩ fun hlen g off m c ev => ?_
    cases ev
    obtain ⟨q1, q2, q3, q4⟩ := r2
    cases q3
    obtain ⟨g', g1, g2⟩ := h5 hlen
    cases g2
    exact hn b (by simp [Lf.names]) _ hb (.inl ⟨_, _, _, rfl⟩) g ((k3 g).2 (by rw [h1, g1]; rfl))
  | _ => cases he

/-- cells as data, the rows that they name frozen -/
def packH (hp : Nat → Option Ob) : (t : Ty) → List Lf → Option (t.den × List Lf)
  | .pair a b, ls => match packH hp a ls with
    | some (x, r) => match packH hp b r with
      | some (y, r') => some ((x, y), r')
      | none => none
    | none => none
  | .st a, ls => packH hp a ls
  | .int k, l :: r => (lfTo (.int k) l).map (·, r)
  | .bool, l :: r => (lfTo .bool l).map (·, r)
  | .str, l :: r => (lfTo .str l).map (·, r)
  | .slice e, l :: r => (asList hp e l).map (·, r)
  | _, [] => none
theorem packH_rd {F : Fr} {hp : Nat → Option Ob} {G : Gh} {w : World} {A' : Nat → Prop} (h : RepH F hp G w) (hA : ∀ k, Okay F hp G k → A' k) : ∀ (t : Ty) (ls : List Lf) (x : t.den) (r : List Lf) (vs : List Value), packH hp t ls = some (x, r) →
    (∀ b ∈ ls.flatMap Lf.names, ∀ ob, hp b = some ob → (∃ E t l, ob = .row E t l) ∨ (∃ E n cs, ob = .arr E n cs) → ∀ k, G.f b k → A' k) → relL w G (Okay F hp G) ls vs → ∃ c q, vs = c ++ q ∧ t.rd w A' x c ∧ relL w G (Okay F hp G) r q ∧ ∀ b ∈ r.flatMap Lf.names, b ∈ ls.flatMap Lf.names
  | .pair a b, ls, x, r, vs, e, hn, hr => by
    unfold packH at e
    split at e
    · rename_i x1 r1 e1
      split at e
      · rename_i y1 r2 e2
        cases e
        obtain ⟨c1, q1, rfl, k1, k2, k3⟩ := packH_rd h hA a ls x1 r1 vs e1 hn hr
        obtain ⟨c2, q2, rfl, m1, m2, m3⟩ := packH_rd h hA b r1 y1 r q1 e2 (fun b hb => hn b (k3 b hb)) k2
        exact ⟨c1 ++ c2, q2, by simp, ⟨c1, c2, rfl, k1, m1⟩, m2, fun b hb => k3 b (m3 b hb)⟩
      · cases e
    · cases e
  | .st a, ls, x, r, vs, e, hn, hr => packH_rd h hA a ls x r vs e hn hr
  | .slice k, l :: r', x, r, vs, e, hn, hr => by
    obtain ⟨v, q, rfl, h1, h2⟩ := hr
    have e : (asList hp k l).map (·, r') = some (x, r) := e
    rw [Option.map_eq_some_iff] at e
    obtain ⟨y, e1, e2⟩ := e
    cases e2
    exact ⟨[v], q, rfl, asList_rd e1 h h1 hA (fun b hb => hn b (by simp only [List.flatMap_cons, List.mem_append]; exact .inl hb)), h2, fun b hb => by simp only [List.flatMap_cons, List.mem_append]; exact .inr hb⟩
  | .int k, l :: r', x, r, vs, e, hn, hr => packH_leaf (t := .int k) hA e hr
  | .bool, l :: r', x, r, vs, e, hn, hr => packH_leaf (t := .bool) hA e hr
  | .str, l :: r', x, r, vs, e, hn, hr => packH_leaf (t := .str) hA e hr
where
  packH_leaf {F : Fr} {hp : Nat → Option Ob} {G : Gh} {w : World} {A' : Nat → Prop} {t : Ty} {l : Lf} {r r' : List Lf} {x : t.den} {vs : List Value} (hA : ∀ k, Okay F hp G k → A' k) (e : (lfTo t l).map (·, r) = some (x, r')) (h : relL w G (Okay F hp G) (l :: r) vs) :
      ∃ c q, vs = c ++ q ∧ t.rd w A' x c ∧ relL w G (Okay F hp G) r' q ∧ ∀ b ∈ r'.flatMap Lf.names, b ∈ (l :: r).flatMap Lf.names := by
    obtain ⟨v, q, rfl, h1, h2⟩ := h
    rw [Option.map_eq_some_iff] at e
    obtain ⟨y, e1, e2⟩ := e
    cases e2
    exact ⟨[v], q, rfl, Ty.rd_mono (Nat.le_refl _) (fun b hb _ => ⟨hA b hb, rfl⟩) t _ _ (lfTo_rd e1 h1), h2, fun b hb => by simp only [List.flatMap_cons, List.mem_append]; exact .inr hb⟩

theorem rdL_three {w : World} {A : Nat → Prop} {t : Ty} {l1 l2 : List t.den} {x : t.den} {v1 c v2 : List Value} (h1 : rdL w A t l1 v1) (h2 : t.rd w A x c) (h3 : rdL w A t l2 v2) : rdL w A t (l1 ++ x :: l2) (v1 ++ (c ++ v2)) :=
  rdL_append h1 ⟨c, v2, rfl, h2, h3⟩
theorem three_len {α : Type} (l1 l2 : List α) (x : α) : l1.length + 1 + l2.length = (l1 ++ x :: l2).length := by simp only [List.length_append, List.length_cons]; omega

/-- an open row is closed: what it named is its own from then on -/
theorem Wk.pack {n : Nat} {sl : List SEnt} {hl hl' : List HEnt} (b : Nat) {E : TypeId} {t : Ty} {l1 l2 : List t.den} {cs : List Lf} {x : t.den} (h1 : hget hl b = some (.rox E t l1 cs l2)) (h2 : packH (hget hl) t cs = some (x, []))
    (hk : keepH (hget hl) hl') (hb : hget hl' b = none) (hc : (cs.flatMap Lf.names).all (fun c => (hget hl' c).isNone) = true) :
    Wk n sl hl sl (.put b (.row E t (l1 ++ x :: l2)) :: hl') := by
  intro F G a w h
  have hs := keepH_get hk
  have hget' : ∀ c, hget (.put b (.row E t (l1 ++ x :: l2)) :: hl') c = if c = b then some (.row E t (l1 ++ x :: l2)) else hget hl' c := by
    intro c
    show (bif Nat.beq c b then _ else _) = _
    by_cases e : c = b
    · subst e; rw [beq_self, if_pos rfl]; rfl
    · rw [beq_ne e, if_neg e]; rfl
  have hfoot : ∀ k, Foot (hget (.put b (.row E t (l1 ++ x :: l2)) :: hl')) G k → Foot (hget hl) G k := by
    rintro k ⟨c, oc, q1, q2⟩
    rw [hget'] at q1
    by_cases e : c = b
    · subst e; exact ⟨c, _, h1, q2⟩
    · rw [if_neg e] at q1; exact ⟨c, oc, hs _ _ q1, q2⟩
  have hx : Ext (Foot (hget hl) G) (Okay F (hget hl) G) G w (Okay F (hget (.put b (.row E t (l1 ++ x :: l2)) :: hl')) G) G w [] := ⟨Only.refl _ _, fun k _ ⟨q1, q2⟩ => ⟨q1, fun q3 => q2 (hfoot k q3)⟩, Okay.apart, fun _ _ => rfl⟩
  refine ⟨G, h.df, h.sz, h.lm, fun t => hx.av (fun _ _ => by simp) (h.sl t), ⟨fun c oc hc' => ?_, fun c1 c2 o1 o2 hne q1 q2 k => ?_, fun c oc hc' k hk' => ?_, h.hp.fr, h.hp.zs, h.hp.tb⟩⟩
  · rw [hget'] at hc'
    by_cases e : c = b
    · subst e
      rw [if_pos rfl] at hc'
      cases hc'
      obtain ⟨v1, c1, v2, m1, m2, m3, m4, m5, m6⟩ := h.hp.sat _ _ h1
      have hA : ∀ k, Okay F (hget hl) G k → Okay F (hget (.put c (.row E t (l1 ++ x :: l2)) :: hl')) G k := fun k ⟨q1, q2⟩ => ⟨q1, fun q3 => q2 (hfoot k q3)⟩
      have mono : ∀ {l : List t.den} {vs : List Value}, rdL w (Okay F (hget hl) G) t l vs → rdL w (Okay F (hget (.put c (.row E t (l1 ++ x :: l2)) :: hl')) G) t l vs := fun hh => rdL_mono (Nat.le_refl _) (fun b hb _ => ⟨hA b hb, rfl⟩) hh
      obtain ⟨c2, q, k1, k2, k3, _⟩ := packH_rd h.hp hA t cs x [] c1 h2 (fun b' hb' ob hob hkind k hfk => by
        have hne : b' ≠ c := by
          rintro rfl
          rw [h1] at hob
          cases hob
          rcases hkind with ⟨_, _, _, e⟩ | ⟨_, _, _, e⟩ <;> cases e
        refine ⟨?_, ?_⟩
        · rcases (h.hp.bd b' ob hob k hfk).2 with r | r
          · exact .inl (h.hp.zs k r)
          · exact .inr r
        · rintro ⟨c', oc', r1, r2⟩
          rw [hget'] at r1
          by_cases e' : c' = c
          · rw [e'] at r2
            exact h.hp.dj _ _ _ _ hne hob h1 k hfk r2
          · rw [if_neg e'] at r1
            have hne' : b' ≠ c' := by
              rintro rfl
              have := List.all_eq_true.1 hc b' hb'
              rw [r1] at this
              cases this
            exact h.hp.dj _ _ _ _ hne' hob (hs _ _ r1) k hfk r2) m2
      obtain rfl := (show q = _ from k3)
      rw [List.append_nil] at k1
      subst k1
      exact ⟨_, rdL_three (mono m1) k2 (mono m4), by rw [← three_len]; exact m5, m6⟩
    · rw [if_neg e] at hc'
      exact (h.hp.sat _ _ (hs _ _ hc')).ext hx (by simp) (by simp) (fun _ _ => rfl) (fun _ => Iff.rfl)
  · have key : ∀ c oc, hget (.put b (.row E t (l1 ++ x :: l2)) :: hl') c = some oc → ∃ o0, hget hl c = some o0 := by
      intro c oc hq
      rw [hget'] at hq
      by_cases e : c = b
      · subst e; exact ⟨_, h1⟩
      · rw [if_neg e] at hq; exact ⟨_, hs _ _ hq⟩
    obtain ⟨_, z1⟩ := key _ _ q1
    obtain ⟨_, z2⟩ := key _ _ q2
    exact h.hp.dj _ _ _ _ hne z1 z2 k
  · rw [hget'] at hc'
    by_cases e : c = b
    · subst e; exact h.hp.bd _ _ h1 k hk'
    · rw [if_neg e] at hc'; exact h.hp.bd _ _ (hs _ _ hc') k hk'

theorem List.set_eq_of_length_le_or_eq {α : Type} (l : List α) (k : Nat) (x : α) (h : l[k]? = some x) : l.set k x = l := by
  obtain ⟨h1, h2⟩ := List.getElem?_eq_some_iff.1 h
  rw [← h2, List.set_getElem_self]
/-- a box's cell that is nil holds a row of length 0 that is owned, with a name d that nothing else has -/
theorem Wk.nilbox {n : Nat} {sl : List SEnt} {hl : List HEnt} (b k d : Nat) (E : TypeId) (ty : Ty) {T : TypeId} {cs : List Lf} (h : hget hl b = some (.box T cs)) (hk : cs[k]? = some .nl) (hbd : Nat.beq b d = false) :
    Wk n sl hl (.scr d :: sl) (.put b (.box T ((cs.map (Lf.scrub d)).set k (.o d))) :: .put d (.row E ty []) :: .scr d d :: hl) := by
  intro F G a w hr
  obtain ⟨G', g1, g2, g3⟩ := grow_step (w' := w) hr.hp d d (.slice none 0 0) (fun _ => False) (.row E ty []) (fun _ hk => hk.elim) (fun _ hk => hk.elim) (Only.refl _ _)
    (fun A' G' q1 q2 _ _ => ⟨[], rfl, by rw [q1]; exact World.ownsRow_nil _ _ _ _, fun k => by rw [q1, q2]; exact ⟨fun hh => hh.elim, fun hh => by cases hh⟩⟩)
  have hne : b ≠ d := fun e => by subst e; rw [beq_self] at hbd; cases hbd
  have hh : hget (.put d (.row E ty []) :: .scr d d :: hl) = upd (scrH (hget hl) d d) d (some (.row E ty [])) := hget_app [.put d (.row E ty []), .scr d d] hl
  have hb : hget (.put d (.row E ty []) :: .scr d d :: hl) b = some (.box T (cs.map (Lf.scrub d))) := by
    rw [hh, upd_ne _ _ hne]
    unfold scrH
    rw [if_neg (by rintro (e | e) <;> exact hne e), h]
    rfl
  rw [← hh] at g2
  have hsat := g2.sat b _ hb
  obtain ⟨gg, vs, s1, s2, s3, s4⟩ := hsat
  have hnew : Sat w G' (Okay F (hget (.put d (.row E ty []) :: .scr d d :: hl)) G') b (.box T ((cs.map (Lf.scrub d)).set k (.o d))) := by
    refine ⟨gg, vs, s1, s2, ?_, s4⟩
    have hlt : k < cs.length := by
      rcases Nat.lt_or_ge k cs.length with q | q
      · exact q
      · rw [List.getElem?_eq_none q] at hk; cases hk
    have hkk : cs[k] = .nl := by rw [List.getElem?_eq_getElem hlt] at hk; exact Option.some.inj hk
    obtain ⟨u, e1, e2⟩ := relL_at s3 k (by simpa using hlt)
    rw [List.getElem_map, hkk] at e2
    obtain rfl := (show u = _ from e2)
    have := relL_set (y := .o d) (u := .slice none 0 0) (w := w) (G := G') (A := Okay F (hget (.put d (.row E ty []) :: .scr d d :: hl)) G') ⟨g3.symm, rfl⟩ k s3
    rw [List.set_eq_of_length_le_or_eq vs.toList k _ e1] at this
    exact this
  have hget2 : ∀ c, hget (.put b (.box T ((cs.map (Lf.scrub d)).set k (.o d))) :: .put d (.row E ty []) :: .scr d d :: hl) c = if c = b then some (.box T ((cs.map (Lf.scrub d)).set k (.o d))) else hget (.put d (.row E ty []) :: .scr d d :: hl) c := by
    intro c
    show (bif Nat.beq c b then _ else _) = _
    by_cases e : c = b
    · subst e; rw [beq_self, if_pos rfl]; rfl
    · rw [beq_ne e, if_neg e]; rfl
  have hfoot : ∀ q, Foot (hget (.put b (.box T ((cs.map (Lf.scrub d)).set k (.o d))) :: .put d (.row E ty []) :: .scr d d :: hl)) G' q ↔ Foot (hget (.put d (.row E ty []) :: .scr d d :: hl)) G' q := by
    intro q
    constructor
    · rintro ⟨c, oc, q1, q2⟩
      rw [hget2] at q1
      by_cases e : c = b
      · subst e; exact ⟨c, _, hb, q2⟩
      · rw [if_neg e] at q1; exact ⟨c, oc, q1, q2⟩
    · rintro ⟨c, oc, q1, q2⟩
      by_cases e : c = b
      · subst e; exact ⟨c, _, by rw [hget2, if_pos rfl], q2⟩
      · exact ⟨c, oc, by rw [hget2, if_neg e]; exact q1, q2⟩
  have hok : Okay F (hget (.put b (.box T ((cs.map (Lf.scrub d)).set k (.o d))) :: .put d (.row E ty []) :: .scr d d :: hl)) G' = Okay F (hget (.put d (.row E ty []) :: .scr d d :: hl)) G' := by
    funext q
    unfold Okay
    rw [hfoot q]
  refine ⟨G', hr.df, hr.sz, hr.lm, fun t => ?_, ⟨fun c oc hc => ?_, fun c1 c2 o1 o2 hne' q1 q2 q => ?_, fun c oc hc q hq => ?_, g2.fr, g2.zs, g2.tb⟩⟩
  · rw [hok]
    have := g1.avS (hr.sl t)
    rw [← hh] at this
    exact this
  · rw [hok]
    rw [hget2] at hc
    by_cases e : c = b
    · subst e; rw [if_pos rfl] at hc; cases hc; exact hnew
    · rw [if_neg e] at hc; exact g2.sat c oc hc
  · have key : ∀ c oc, hget (.put b (.box T ((cs.map (Lf.scrub d)).set k (.o d))) :: .put d (.row E ty []) :: .scr d d :: hl) c = some oc → ∃ o0, hget (.put d (.row E ty []) :: .scr d d :: hl) c = some o0 := by
      intro c oc hq
      rw [hget2] at hq
      by_cases e : c = b
      · subst e; exact ⟨_, hb⟩
      · rw [if_neg e] at hq; exact ⟨_, hq⟩
    obtain ⟨_, z1⟩ := key _ _ q1
    obtain ⟨_, z2⟩ := key _ _ q2
    exact g2.dj _ _ _ _ hne' z1 z2 q
  · rw [hget2] at hc
    by_cases e : c = b
    · subst e; exact g2.bd _ _ hb q hq
    · rw [if_neg e] at hc; exact g2.bd _ _ hc q hq

/-- a cell of an open row's open element that is nil holds a row of length 0 that is owned -/
theorem Wk.nilrox {n : Nat} {sl : List SEnt} {hl : List HEnt} (b k d : Nat) (E : TypeId) (ty : Ty) {T : TypeId} {t : Ty} {l1 l2 : List t.den} {cs : List Lf} (h : hget hl b = some (.rox T t l1 cs l2)) (hk : cs[k]? = some .nl) (hbd : Nat.beq b d = false) :
    Wk n sl hl (.scr d :: sl) (.put b (.rox T t l1 ((cs.map (Lf.scrub d)).set k (.o d)) l2) :: .put d (.row E ty []) :: .scr d d :: hl) := by
  intro F G a w hr
  obtain ⟨G', g1, g2, g3⟩ := grow_step (w' := w) hr.hp d d (.slice none 0 0) (fun _ => False) (.row E ty []) (fun _ hk => hk.elim) (fun _ hk => hk.elim) (Only.refl _ _)
    (fun A' G' q1 q2 _ _ => ⟨[], rfl, by rw [q1]; exact World.ownsRow_nil _ _ _ _, fun k => by rw [q1, q2]; exact ⟨fun hh => hh.elim, fun hh => by cases hh⟩⟩)
  have hne : b ≠ d := fun e => by subst e; rw [beq_self] at hbd; cases hbd
  have hh : hget (.put d (.row E ty []) :: .scr d d :: hl) = upd (scrH (hget hl) d d) d (some (.row E ty [])) := hget_app [.put d (.row E ty []), .scr d d] hl
  have hb : hget (.put d (.row E ty []) :: .scr d d :: hl) b = some (.rox T t l1 (cs.map (Lf.scrub d)) l2) := by
    rw [hh, upd_ne _ _ hne]
    unfold scrH
    rw [if_neg (by rintro (e | e) <;> exact hne e), h]
    rfl
  rw [← hh] at g2
  have hsat := g2.sat b _ hb
  obtain ⟨v1, vs, v2, s1, s3, s2, s4, s5, s6⟩ := hsat
  have hnew : Sat w G' (Okay F (hget (.put d (.row E ty []) :: .scr d d :: hl)) G') b (.rox T t l1 ((cs.map (Lf.scrub d)).set k (.o d)) l2) := by
    refine ⟨v1, vs, v2, s1, ?_, s2, s4, s5, s6⟩
    have hlt : k < cs.length := by
      rcases Nat.lt_or_ge k cs.length with q | q
      · exact q
      · rw [List.getElem?_eq_none q] at hk; cases hk
    have hkk : cs[k] = .nl := by rw [List.getElem?_eq_getElem hlt] at hk; exact Option.some.inj hk
    obtain ⟨u, e1, e2⟩ := relL_at s3 k (by simpa using hlt)
    rw [List.getElem_map, hkk] at e2
    obtain rfl := (show u = _ from e2)
    have := relL_set (y := .o d) (u := .slice none 0 0) (w := w) (G := G') (A := Okay F (hget (.put d (.row E ty []) :: .scr d d :: hl)) G') ⟨g3.symm, rfl⟩ k s3
    rw [List.set_eq_of_length_le_or_eq vs k _ e1] at this
    exact this
  have hget2 : ∀ c, hget (.put b (.rox T t l1 ((cs.map (Lf.scrub d)).set k (.o d)) l2) :: .put d (.row E ty []) :: .scr d d :: hl) c = if c = b then some (.rox T t l1 ((cs.map (Lf.scrub d)).set k (.o d)) l2) else hget (.put d (.row E ty []) :: .scr d d :: hl) c := by
    intro c
    show (bif Nat.beq c b then _ else _) = _
    by_cases e : c = b
    · subst e; rw [beq_self, if_pos rfl]; rfl
    · rw [beq_ne e, if_neg e]; rfl
  have hfoot : ∀ q, Foot (hget (.put b (.rox T t l1 ((cs.map (Lf.scrub d)).set k (.o d)) l2) :: .put d (.row E ty []) :: .scr d d :: hl)) G' q ↔ Foot (hget (.put d (.row E ty []) :: .scr d d :: hl)) G' q := by
    intro q
    constructor
    · rintro ⟨c, oc, q1, q2⟩
      rw [hget2] at q1
      by_cases e : c = b
      · subst e; exact ⟨c, _, hb, q2⟩
      · rw [if_neg e] at q1; exact ⟨c, oc, q1, q2⟩
    · rintro ⟨c, oc, q1, q2⟩
      by_cases e : c = b
      · subst e; exact ⟨c, _, by rw [hget2, if_pos rfl], q2⟩
      · exact ⟨c, oc, by rw [hget2, if_neg e]; exact q1, q2⟩
  have hok : Okay F (hget (.put b (.rox T t l1 ((cs.map (Lf.scrub d)).set k (.o d)) l2) :: .put d (.row E ty []) :: .scr d d :: hl)) G' = Okay F (hget (.put d (.row E ty []) :: .scr d d :: hl)) G' := by
    funext q
    unfold Okay
    rw [hfoot q]
  refine ⟨G', hr.df, hr.sz, hr.lm, fun t' => ?_, ⟨fun c oc hc => ?_, fun c1 c2 o1 o2 hne' q1 q2 q => ?_, fun c oc hc q hq => ?_, g2.fr, g2.zs, g2.tb⟩⟩
  · rw [hok]
    have := g1.avS (hr.sl t')
    rw [← hh] at this
    exact this
  · rw [hok]
    rw [hget2] at hc
    by_cases e : c = b
    · subst e; rw [if_pos rfl] at hc; cases hc; exact hnew
    · rw [if_neg e] at hc; exact g2.sat c oc hc
  · have key : ∀ c oc, hget (.put b (.rox T t l1 ((cs.map (Lf.scrub d)).set k (.o d)) l2) :: .put d (.row E ty []) :: .scr d d :: hl) c = some oc → ∃ o0, hget (.put d (.row E ty []) :: .scr d d :: hl) c = some o0 := by
      intro c oc hq
      rw [hget2] at hq
      by_cases e : c = b
      · subst e; exact ⟨_, hb⟩
      · rw [if_neg e] at hq; exact ⟨_, hq⟩
    obtain ⟨_, z1⟩ := key _ _ q1
    obtain ⟨_, z2⟩ := key _ _ q2
    exact g2.dj _ _ _ _ hne' z1 z2 q
  · rw [hget2] at hc
    by_cases e : c = b
    · subst e; exact g2.bd _ _ hb q hq
    · rw [if_neg e] at hc; exact g2.bd _ _ hc q hq

/-! ### results that are frozen -/
/-- a slice that a cell holds, as data -/
def frzL (hp : Nat → Option Ob) (e : Ty) : Lf → Option (List e.den)
  | .o b => match hp b with
    | some (.rox _ u l1 cs l2) => if h : u = e then (match packH hp u cs with
      | some (x, []) => some (castL h (l1 ++ x :: l2))
      | _ => none) else none
    | _ => asList hp e (.o b)
  | x => asList hp e x
def fzL (hp : Nat → Option Ob) (x y : Lf) : Prop := x = y ∨ ∃ e l, y = .d (.slice e) l ∧ frzL hp e x = some l
def fzLs (hp : Nat → Option Ob) : List Lf → List Lf → Prop
  | [], [] => True
  | x :: xs, y :: ys => fzL hp x y ∧ fzLs hp xs ys
  | _, _ => False
def fzEs (hp : Nat → Option Ob) : List (Bool × List Lf) → List (Bool × List Lf) → Prop
  | [], [] => True
  | x :: xs, y :: ys => (x.1 = y.1 ∧ fzLs hp x.2 y.2) ∧ fzEs hp xs ys
  | _, _ => False
def fzA (hp : Nat → Option Ob) : AV → AV → Prop
  | .v a xs, .v b ys => a = b ∧ fzLs hp xs ys
  | .tu es, .tu fs => fzEs hp es fs
  | x, y => x = y
theorem fzL.same {hp : Nat → Option Ob} {x : Lf} : fzL hp x x := .inl rfl
theorem fzL.frz {hp : Nat → Option Ob} {x : Lf} {e : Ty} {l : List e.den} (h : frzL hp e x = some l) : fzL hp x (.d (.slice e) l) := .inr ⟨e, l, rfl, h⟩

def AllOk (F : Fr) (k : Nat) : Prop := F.Z k ∨ F.w0.heap.size ≤ k
theorem own_allok {F : Fr} {hp : Nat → Option Ob} {G : Gh} {w : World} (h : RepH F hp G w) {b : Nat} {ob : Ob} (hb : hp b = some ob) {k : Nat} (hk : G.f b k) : AllOk F k := by
  rcases (h.bd b ob hb k hk).2 with r | r
  · exact .inl (h.zs k r)
  · exact .inr r
theorem frzL_rd {F : Fr} {hp : Nat → Option Ob} {G : Gh} {w : World} {e : Ty} {x : Lf} {l : List e.den} {v : Value} (he : frzL hp e x = some l) (h : RepH F hp G w) (hx : x.rel w G (Okay F hp G) v) : (Ty.slice e).rd w (AllOk F) l [v] := by
  have simple : asList hp e x = some l → (Ty.slice e).rd w (AllOk F) l [v] := fun he => asList_rd he h hx (fun k hk => hk.1) (fun b _ ob hob _ k hk => own_allok h hob hk)
  cases x with
  | o b =>
    unfold frzL at he
    dsimp only at he
    split at he
    · rename_i E u l1 cs l2 hb
      split at he
      · rename_i hu
        subst hu
        split at he
        · rename_i y hy
          cases he
          obtain ⟨v1, c1, v2, m1, m2, m3, m4, m5, m6⟩ := h.sat _ _ hb
          obtain ⟨c2, q, k1, k2, k3, _⟩ := packH_rd (A' := AllOk F) h (fun k hk => hk.1) u cs y [] c1 hy (fun b' _ ob hob _ k hk => own_allok h hob hk) m2
          obtain rfl := (show q = _ from k3)
          rw [List.append_nil] at k1
          subst k1
          rw [hx.1]
          have mono : ∀ {l : List u.den} {vs : List Value}, rdL w (Okay F hp G) u l vs → rdL w (AllOk F) u l vs := fun hh => rdL_mono (Nat.le_refl _) (fun b hb _ => ⟨hb.1, rfl⟩) hh
          rw [castL_self]
          exact reads_rdB (rdL_three (mono m1) k2 (mono m4)) (by rw [← three_len]; exact m5) fun k hk => own_allok h hb ((m6 k).2 hk)
        · cases he
      · cases he
    · exact simple he
  | _ => exact simple he
theorem fzL_rel {F : Fr} {hp : Nat → Option Ob} {G : Gh} {w : World} {x y : Lf} {v : Value} (he : fzL hp x y) (h : RepH F hp G w) (hx : x.rel w G (Okay F hp G) v) : y.rel w G (AllOk F) v := by
  rcases he with rfl | ⟨e, l, rfl, he⟩
  · have hx' : Ext (fun _ => False) (Okay F hp G) G w (AllOk F) G w [] := ⟨Only.refl _ _, fun k _ hk => hk.1, fun _ _ h => h, fun _ _ => rfl⟩
    exact hx'.lf (by simp) hx
  · exact frzL_rd he h hx
theorem fzLs_rel {F : Fr} {hp : Nat → Option Ob} {G : Gh} {w : World} (h : RepH F hp G w) : ∀ {xs ys : List Lf} {vs : List Value}, fzLs hp xs ys → relL w G (Okay F hp G) xs vs → relL w G (AllOk F) ys vs
  | [], [], _, _, hx => hx
  | x :: xs, y :: ys, vs, he, hx => by
    obtain ⟨v, r, h1, h2, h3⟩ := hx
    exact ⟨v, r, h1, fzL_rel he.1 h h2, fzLs_rel h he.2 h3⟩
  | [], _ :: _, _, he, _ => he.elim
  | _ :: _, [], _, he, _ => he.elim
theorem fzEs_rel {F : Fr} {hp : Nat → Option Ob} {G : Gh} {w : World} (h : RepH F hp G w) : ∀ {xs ys : List (Bool × List Lf)} {vs : List Value}, fzEs hp xs ys → relT w G (Okay F hp G) xs vs → relT w G (AllOk F) ys vs
  | [], [], _, _, hx => hx
  | x :: xs, y :: ys, vs, he, hx => by
    obtain ⟨v, r, h1, ⟨us, k1, k2, k3⟩, h3⟩ := hx
    refine ⟨v, r, h1, ⟨us, fzLs_rel h he.1.2 k1, ?_, ?_⟩, fzEs_rel h he.2 h3⟩
    · rw [← he.1.1]; exact k2
    · rw [← he.1.1]; exact k3
  | [], _ :: _, _, he, _ => he.elim
  | _ :: _, [], _, he, _ => he.elim
theorem fzA_rel {F : Fr} {hp : Nat → Option Ob} {G : Gh} {w : World} (h : RepH F hp G w) {x y : AV} {v : Value} (he : fzA hp x y) (hx : x.rel w G (Okay F hp G) v) : y.rel w G (AllOk F) v := by
  have triv : ∀ {z : AV}, z = .un → z.rel w G (AllOk F) v := by rintro z rfl; trivial
  cases x with
  | v a xs => cases y with
    | v b ys =>
      obtain ⟨rfl, he⟩ := he
      obtain ⟨us, k1, k2, k3⟩ := hx
      exact ⟨us, fzLs_rel h he k1, k2, k3⟩
    | tu fs => cases (show AV.v a xs = AV.tu fs from he)
    | un => trivial
  | tu es => cases y with
    | v b ys => cases (show AV.tu es = AV.v b ys from he)
    | tu fs => obtain ⟨vs, h1, h2⟩ := hx; exact ⟨vs, h1, fzEs_rel h he h2⟩
    | un => trivial
  | un => cases y with
    | v b ys => cases (show AV.un = AV.v b ys from he)
    | tu fs => cases (show AV.un = AV.tu fs from he)
    | un => trivial

theorem frOf_allok {bw : Bool} {n : Nat} {F : Fr} {hp : Nat → Option Ob} {G : Gh} {w : World} (h : RepH F hp G w) (hb : bw = false) {k : Nat} (hk : AllOk (frOf bw F hp G w n) k) : Okay F hp G k := by
  subst hb
  rcases hk with q | q
  · rcases q with q | q
    · cases q
    · exact q
  · refine ⟨.inr (Nat.le_trans h.size q), ?_⟩
    intro hf
    have := h.lt hf
    have q : w.heap.size ≤ k := q
    omega
/-- a function whose answer is data, what it made frozen at its end -/
theorem pureSp_okF {P : Program} {E : Env} (hE : E.Fine P) {f : FuncId} {fn : Func} (hf : P.funcs[f]? = some fn) {bw : Bool} {ts : List Ty} {pre : dens ts → Prop} {res : dens ts → AV} (hpl : ∀ xs, pre xs → (res xs).plain bw = true)
    (h : ∀ xs, saneAll ts xs → pre xs → fnM E fn (argAV ts xs) [] (fun r hl => fzA (hget hl) r (res xs))) : SpecOk P f (pureSp bw ts pre res) := by
  intro d args hp r hr hside
  unfold pureSp at hr
  split at hr
  · rename_i xs hxs
    cases hr
    refine ⟨.inl rfl, fun F G w vals hrep ha => ?_⟩
    refine Calls.mono (fnM_calls hE hf (h xs (args_sane _ _ _ (frOf_args (n := 0) hrep hxs ha)) hside) (frOf_rep bw hrep fn.ntmps) (frOf_args hrep hxs ha)) ?_
    rintro e w' ⟨v, r, hl', G', rfl, hk, k1, k2⟩
    obtain ⟨m1, m2⟩ := hrep.after (w' := w') k1.fr
    have k3 := fzA_rel k1 hk k2
    exact ⟨v, rfl, G, m2, m1, plain_av (fun hb t x cs hh => Ty.rd_mono (Nat.le_refl _) (fun b hb' _ => ⟨frOf_allok hrep hb hb', rfl⟩) t x cs hh) (hpl xs hside) k3⟩
  · cases hr

/-! part SxZc -/
/-- the name of the caller's box while the method runs -/
@[reducible] def RT : Nat := 900000
def mFinB (E : Env) (rs : List ResultVar) (K : AV → List SEnt → List HEnt → Prop) : KX := fun e sl hl => match e with
  | .exit _ => False
  | _ => match resAll E (look sl) (hget hl) rs with
    | some es => fEs es fun es' => Run (Ret (K (resAV es') sl hl))
    | none => False
/-- a function's text, run from its arguments, with slots put aside -/
def fnB (E : Env) (fn : Func) (args : List AV) (s0 : List SEnt) (hl : List HEnt) (K : AV → List SEnt → List HEnt → Prop) : Prop :=
  match fn.body with
  | some c => (Nat.ble args.length fn.ntmps && Nat.ble fn.ntmps SUS) = true ∧ mx (cH 5 E) E fn.ntmps c (params 0 args ++ s0) hl (finK E fn.results.toList K)
  | none => False
theorem mFinB_fin {E : Env} {rs : List ResultVar} {K : AV → List SEnt → List HEnt → Prop} : ∀ e s h, mFinB E rs K e s h → finK E rs K e s h := by
  intro e s h hk
  unfold mFinB at hk
  unfold finK
  cases e with
  | exit j => exact hk.elim
  | normal =>
    dsimp only at hk ⊢
    split at hk
    · rename_i es hes; rw [fEs_eq] at hk; simp only [hes]; exact hk.is.is
    · exact hk.elim
  | ret =>
    dsimp only at hk ⊢
    split at hk
    · rename_i es hes; rw [fEs_eq] at hk; simp only [hes]; exact hk.is.is
    · exact hk.elim
theorem fnB_of {E : Env} {fn : Func} {args : List AV} {s0 : List SEnt} {hl : List HEnt} {K : AV → List SEnt → List HEnt → Prop} {nm og : String} {tg ps rt : Array TypeId} {nf : Nat} {nr ou : Bool} {fl : String} {el : Nat} {ln : Option Nat} {mt : List Departure} {tn : Array String} {c : Code} {n : Nat} {rs : Array ResultVar} {rs' : List ResultVar} {s : List SEnt}
    (hf : fn = ⟨nm, og, tg, ps, rt, nf, n, rs, some c, nr, ou, fl, el, ln, mt, tn⟩) (hr : rs.toList = rs') (ha : (Nat.ble args.length n && Nat.ble n SUS) = true) (hs : params 0 args ++ s0 = s)
    (h : mx (cH 5 E) E n c s hl (mFinB E rs' K)) : fnB E fn args s0 hl K := by
  subst hf; subst hr; subst hs
  unfold fnB
  exact ⟨ha, mx_mono (cH_mono _ _) c mFinB_fin h⟩
theorem fnB_calls {P : Program} {E : Env} (hE : E.Fine P) {f : FuncId} {fn : Func} (hf : P.funcs[f]? = some fn) {args : List AV} {s0 : List SEnt} {hl : List HEnt} {K : AV → List SEnt → List HEnt → Prop} (h : fnB E fn args s0 hl K) {F : Fr} {G : Gh} {w : World} (hr : RepH F (hget hl) G w)
    (h0 : ∀ t, t < SUS → look s0 t = .un) (h1 : ∀ t, SUS ≤ t → (look s0 t).rel w G (Okay F (hget hl) G) (F.old t)) {vals : List Value} (ha : relAs w G (Okay F (hget hl) G) args vals) :
    Calls P f vals.toArray w fun e w' => ∃ v r sl' hl' G', e = .returned v ∧ K r sl' hl' ∧ RepH F (hget hl') G' w' ∧ (∀ t, SUS ≤ t → (look sl' t).rel w' G' (Okay F (hget hl') G') (F.old t)) ∧ r.rel w' G' (Okay F (hget hl') G') v := by
  unfold fnB at h
  split at h
  · rename_i c hc
    obtain ⟨hn, hex⟩ := h
    obtain ⟨hn, hS⟩ := Bool.and_eq_true_iff.1 hn
    refine fnI_calls hE (cH_ok 5 E hE) (cH_mono 5 E) hf hc (Nat.le_of_ble_eq_true hn) (Nat.le_of_ble_eq_true hS) (s0 := s0) hex hr h0 h1 ha (fun e sl' hl' hk he => ?_) (fun e sl' hl' G' a' w' hk he hrep => ?_)
    · cases e with
      | exit j => exact hk
      | normal => exact he.1 rfl
      | ret => exact he.2 rfl
    · have hk' : ∃ es, resAll E (look sl') (hget hl') fn.results.toList = some es ∧ K (resAV es) sl' hl' := by
        rcases he with rfl | rfl
        · unfold finK at hk
          dsimp only at hk
          split at hk
          · rename_i es hes; exact ⟨es, hes, hk⟩
          · exact hk.elim
        · unfold finK at hk
          dsimp only at hk
          split at hk
          · rename_i es hes; exact ⟨es, hes, hk⟩
          · exact hk.elim
      obtain ⟨es, hes, hk'⟩ := hk'
      obtain ⟨v, q1, q2⟩ := results_run hE.ok hrep hes
      refine ⟨v, q1, v, resAV es, sl', hl', G', rfl, hk', hrep.hp, fun t ht => ?_, q2⟩
      have := hrep.sl t
      rwa [vl_ge (by omega)] at this
  · exact h.elim

theorem leaves_plain : ∀ (t : Ty) (x : t.den), (t.leaves x).all (Lf.plain false) = true
  | .pair a b, x => by simp only [Ty.leaves, List.all_append, leaves_plain a, leaves_plain b]; rfl
  | .st a, x => leaves_plain a x
  | .int k, x => rfl
  | .bool, x => rfl
  | .str, x => rfl
  | .slice e, x => rfl

/-- a method with a box as its receiver: what it answers, what lies in the box behind it -/
def boxSp (T : TypeId) (u : Ty) (ts : List Ty) (pre : u.den → dens ts → Prop) (res : u.den → dens ts → AV) (up : u.den → dens ts → u.den) : SpecF := fun _ args hp => match args with
  | .v false [.p b 0] :: aas => match hp b with
    | some (.box T' cs) => match Nat.beq T' T, u.pack cs, argsOf (fun _ => none) ts aas with
      | true, some (x, []), some ys => some ⟨pre x ys, res x ys, [.put b (.box T (u.leaves (up x ys)))], []⟩
      | _, _, _ => none
    | _ => none
  | _ => none

theorem boxSp_ok {P : Program} {E : Env} (hE : E.Fine P) {f : FuncId} {fn : Func} (hf : P.funcs[f]? = some fn) {T : TypeId} {u : Ty} {ts : List Ty} {pre : u.den → dens ts → Prop} {res : u.den → dens ts → AV} {up : u.den → dens ts → u.den} (hpl : ∀ x ys, pre x ys → (res x ys).plain false = true)
    (h : ∀ x ys, u.sane x → saneAll ts ys → pre x ys → fnB E fn (.v false [.p RT 0] :: argAV ts ys) [.mark, .put 0 (.v false [.p RT 0])] [.put RT (.box T (u.leaves x))]
      (fun r sl hl => r = res x ys ∧ look sl SUS = .v false [.p RT 0] ∧ hget hl RT = some (.box T (u.leaves (up x ys))))) : SpecOk P f (boxSp T u ts pre res up) := by
  intro d args hp r hr hside
  unfold boxSp at hr
  split at hr
  · rename_i b aas
    split at hr
    · rename_i T' cs hb
      split at hr
      · rename_i x ys hT hx hys
        cases hr
        obtain rfl := Nat.eq_of_beq_eq_true hT
        refine ⟨.inl rfl, fun F G w vals hrep ha => ?_⟩
        obtain ⟨v0, r0, rfl, a1, a2⟩ := ha
        obtain ⟨g0, b1, b2⟩ := AV.one_rel (x := .v false [.p b 0]) rfl a1
        obtain ⟨g, vs, s1, s2, s3, s4⟩ := hrep.sat b _ hb
        have hg : g0 = g := by unfold boxAt at b1 s1; rw [b1] at s1; cases s1; rfl
        subst hg
        let F' : Fr := ⟨w, fun k => Okay F hp G k ∨ G.f b k, G.f b, fun _ => G.r b⟩
        let G1 : Gh := ⟨upd G.r RT (G.r b), upd G.f RT (G.f b)⟩
        have e1 : G1.r RT = G.r b := by show upd G.r RT (G.r b) RT = G.r b; exact upd_same _ _ _
        have e2 : G1.f RT = G.f b := by show upd G.f RT (G.f b) RT = G.f b; exact upd_same _ _ _
        have hp1 : ∀ c oc, hget [.put RT (.box T' (u.leaves x))] c = some oc → c = RT ∧ oc = .box T' (u.leaves x) := by
          intro c oc hc
          unfold hget at hc
          by_cases e : c = RT
          · subst e; rw [beq_self] at hc; cases hc; exact ⟨rfl, rfl⟩
          · rw [beq_ne e] at hc; cases hc
        have hfoot : ∀ k, Foot (hget [.put RT (.box T' (u.leaves x))]) G1 k → G.f b k := by
          rintro k ⟨c, oc, h1, h2⟩
          obtain ⟨rfl, -⟩ := hp1 c oc h1
          rw [e2] at h2
          exact h2
        have hA : ∀ k, Okay F hp G k → Okay F' (hget [.put RT (.box T' (u.leaves x))]) G1 k := fun k hk => ⟨.inl (.inl hk), fun hq => hk.2 ⟨b, _, hb, hfoot k hq⟩⟩
        obtain ⟨c, q, k0, k1, k2⟩ := pack_rd u cs x [] vs.toList hx s3
        obtain rfl := (show q = _ from k2)
        rw [List.append_nil] at k0
        have k3 : u.rd w (Okay F' (hget [.put RT (.box T' (u.leaves x))]) G1) x vs.toList := by
          rw [k0]; exact Ty.rd_mono (Nat.le_refl _) (fun b' hb' _ => ⟨hA b' hb', rfl⟩) u x c k1
        have hrep1 : RepH F' (hget [.put RT (.box T' (u.leaves x))]) G1 w := by
          refine ⟨fun c oc hc => ?_, fun c1 c2 o1 o2 hne h1 h2 => ?_, fun c oc hc k hk => ?_, Only.refl _ _, fun k hk => .inr hk, fun w' ho => hrep.tb w' ⟨ho.os.trans hrep.fr.os, ho.tape.trans hrep.fr.tape, ho.output.trans hrep.fr.output, Nat.le_trans hrep.fr.size ho.size, fun k hk hs => (ho.block k (Nat.lt_of_lt_of_le hk hrep.fr.size) (fun hq => by
            have := (hrep.bd b _ hb k hq).2
            rcases this with q | q
            · exact hs q
            · omega)).trans (hrep.fr.block k hk hs)⟩⟩
          · obtain ⟨rfl, rfl⟩ := hp1 c oc hc
            exact ⟨g0, vs, e1.trans s1, s2, leaves_rel u x _ k3, fun k => by rw [e2]; exact s4 k⟩
          · obtain ⟨rfl, -⟩ := hp1 c1 o1 h1
            obtain ⟨rfl, -⟩ := hp1 c2 o2 h2
            exact absurd rfl hne
          · obtain ⟨rfl, -⟩ := hp1 c oc hc
            rw [e2] at hk
            exact ⟨(hrep.bd b _ hb k hk).1, .inl hk⟩
        have hptr : ∀ A, (AV.v false [.p RT 0]).rel w G1 A (G.r b) := fun A => AV.rel_of ⟨g0, e1.trans s1, s1⟩
        have hargs : relAs w G1 (Okay F' (hget [.put RT (.box T' (u.leaves x))]) G1) (argAV ts ys) r0 := argsOf_rel hrep (fun k hk => hA k hk) (.inr rfl) ts aas ys r0 hys a2
        have hsane : saneAll ts ys := args_sane _ _ _ hargs
        refine Calls.mono (fnB_calls hE hf (h x ys (rd_sane u x _ k3) hsane hside) hrep1 (fun t ht => ?_) (fun t ht => ?_) (vals := v0 :: r0) ⟨v0, r0, rfl, ?_, hargs⟩) ?_
        · rw [look_mark, if_pos ht]
        · rw [look_mark, if_neg (by omega)]
          show (bif Nat.beq (t - SUS) 0 then (AV.v false [.p RT 0]) else .un).rel _ _ _ _
          cases Nat.beq (t - SUS) 0
          · trivial
          · exact hptr _
        · have : v0 = G.r b := by rw [b2]; exact s1.symm
          rw [this]; exact hptr _
        rintro e w' ⟨v, r, sl', hl', G', rfl, ⟨rfl, z1, z2⟩, m1, m2, m3⟩
        have hgb : ∀ t, SUS ≤ t → look sl' t = .v false [.p RT 0] → boxAt G' RT g0 := by
          intro t ht e
          have := m2 t ht
          rw [e] at this
          obtain ⟨g', n1, n2⟩ := AV.one_rel (x := .v false [.p RT 0]) rfl this
          have n2 : G.r b = .pointer (some ⟨g', 0, none⟩) := n2
          unfold boxAt at s1
          rw [s1] at n2
          cases n2
          exact n1
        have hgb := hgb SUS (Nat.le_refl _) z1
        obtain ⟨g', vs', t1, t2, t3, t4⟩ := m1.sat RT _ z2
        have hg' : g' = g0 := by unfold boxAt at hgb t1; rw [hgb] at t1; cases t1; rfl
        subst hg'
        have hok : ∀ k, Okay F' (hget hl') G' k → Okay F hp G k := by
          rintro k ⟨q1, q2⟩
          rcases q1 with (q1 | q1) | q1
          · exact q1
          · exact absurd ⟨RT, _, z2, (t4 k).2 ((s4 k).1 q1)⟩ q2
          · refine ⟨.inr (Nat.le_trans hrep.size q1), fun hf => ?_⟩
            have := hrep.lt hf
            have q1 : w.heap.size ≤ k := q1
            omega
        have hmono : ∀ (t : Ty) (x : t.den) cs, t.rd w' (Okay F' (hget hl') G') x cs → t.rd w' (Okay F hp G) x cs := fun t x cs hh => Ty.rd_mono (Nat.le_refl _) (fun b' hb' _ => ⟨hok b' hb', rfl⟩) t x cs hh
        obtain ⟨w1, w2⟩ := write_step hrep b _ (.box T' (u.leaves (up x ys))) hb m1.fr (fun _ => ⟨g', vs', s1, t2, plain_ls (fun _ => hmono) (leaves_plain u _) t3, s4⟩)
        have hfoot2 : ∀ k, Okay F hp G k → Okay F (upd hp b (some (.box T' (u.leaves (up x ys))))) G k := by
          rintro k ⟨q1, q2⟩
          refine ⟨q1, ?_⟩
          rintro ⟨c, oc, h1, h2⟩
          by_cases e : c = b
          · subst e; exact q2 ⟨c, _, hb, h2⟩
          · rw [upd_ne _ _ e] at h1; exact q2 ⟨c, oc, h1, h2⟩
        exact ⟨v, rfl, G, w1, w2, plain_av (fun _ t x cs hh => Ty.rd_mono (Nat.le_refl _) (fun b' hb' _ => ⟨hfoot2 b' (hok b' hb'), rfl⟩) t x cs hh) (hpl x ys hside) m3⟩
      · cases hr
    · cases hr
  · cases hr
theorem boxSp_loc (T : TypeId) (u : Ty) (ts : List Ty) (pre : u.den → dens ts → Prop) (res : u.den → dens ts → AV) (up : u.den → dens ts → u.den) : SpLoc (boxSp T u ts pre res up) := by
  intro d args hp hp' h
  unfold boxSp
  cases args with
  | nil => rfl
  | cons a aas =>
    cases a with
    | v g ls =>
      cases g with
      | true => rfl
      | false =>
        cases ls with
        | nil => rfl
        | cons l r =>
          cases r with
          | cons _ _ => cases l with
            | p b off => cases off <;> rfl
            | _ => rfl
          | nil =>
            cases l with
            | p b off =>
              cases off with
              | succ _ => rfl
              | zero => simp only [h b (by simp [AV.names, Lf.names])]
            | _ => rfl
    | _ => rfl
end Go.Proofs.Ytgdlbpihkodeoaa
