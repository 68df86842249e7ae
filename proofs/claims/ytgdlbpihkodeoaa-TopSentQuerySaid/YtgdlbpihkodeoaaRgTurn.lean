/- A range over a function whose iterator only reads, with the executor's states: the rounds are walked by the machine, the heap's list goes on from round to round. No program in sight. -/
import Derived.RangeFuncKeeps
import Derived.RangeFuncLeaves
import Derived.RangeFuncBox
import Derived.Test.YtgdlbpihkodeoaaSxIn
namespace Go.Proofs.Ytgdlbpihkodeoaa
open Go.RowKit

def Fr.turn (F : Fr) (hp : Nat → Option Ob) (G : Gh) (W W' : World) : Fr := ⟨W', fun k => (F.Z k ∨ F.w0.heap.size ≤ k) ∧ k < W.heap.size, Foot hp G, F.old⟩
theorem foot_z {F : Fr} {hp : Nat → Option Ob} {G : Gh} {W : World} (h : RepH F hp G W) {k : Nat} (hk : Foot hp G k) : (F.Z k ∨ F.w0.heap.size ≤ k) ∧ k < W.heap.size := by
  obtain ⟨b, ob, h1, h2⟩ := hk
  obtain ⟨q1, q2⟩ := h.bd b ob h1 k h2
  exact ⟨q2.elim (fun q => .inl (h.zs k q)) .inr, q1⟩
theorem RepH.ext_turn {F : Fr} {hp : Nat → Option Ob} {G : Gh} {W W' : World} {B : Nat → Prop} (h : RepH F hp G W) (hB : ∀ k, B k → ¬ (F.Z k ∨ F.w0.heap.size ≤ k)) (ho : Only B W W') :
    Ext (fun k => Foot hp G k ∨ B k) (Okay F hp G) G W (Okay (F.turn hp G W W') hp G) G W' [] :=
  ⟨⟨ho.os, ho.tape, ho.output, ho.size, fun k hk hn => ho.block k hk (fun q => hn (.inr q))⟩, fun k hk ⟨h1, h2⟩ => ⟨.inl ⟨h1, hk⟩, h2⟩, fun k ⟨h1, h2⟩ q => q.elim h2 (fun q => hB k q h1), fun _ _ => rfl⟩
theorem Rep.turn (htb : ∀ w, Tb w) {F : Fr} {n : Nat} {sl : Nat → AV} {hp : Nat → Option Ob} {G : Gh} {a : Act} {W W' : World} {B : Nat → Prop} (h : Rep F n sl hp G a W) (hB : ∀ k, B k → ¬ (F.Z k ∨ F.w0.heap.size ≤ k)) (ho : Only B W W') :
    Rep (F.turn hp G W W') n sl hp G a W' := by
  have hx := h.hp.ext_turn hB ho
  refine ⟨h.df, h.sz, h.lm, fun t => ?_, ?_⟩
  · have := hx.av (x := sl t) (fun _ _ => by simp) (h.sl t)
    exact this
  · refine ⟨fun b ob hb => (h.hp.sat b ob hb).ext hx (by simp) (fun _ _ => by simp) (fun k hk => ?_) (fun _ => Iff.rfl), h.hp.dj, fun b ob hb k hk => ⟨Nat.lt_of_lt_of_le (h.hp.bd b ob hb k hk).1 ho.size, .inl ⟨b, ob, hb, hk⟩⟩, Only.refl _ _, fun k hk => foot_z h.hp hk, fun w _ => htb w⟩
    have hf := foot_z h.hp (k := k) ⟨b, ob, hb, hk⟩
    exact ho.block k hf.2 (fun q => hB k q hf.1)

/-- what lies behind: nothing that lay in ws has changed; the two blocks of the loop's own book-keeping are out of reach -/
structure Gd (ws : World) (D : Nat) (F : Fr) (W : World) : Prop where
  w0 : F.w0 = W
  d : ¬ F.Z D
  l : ¬ F.Z (D + 1)
  lt : D + 1 < W.heap.size
  s : ∀ k, F.S k → ws.heap.size ≤ k
  on : Only (fun _ => False) ws W
theorem only_trans {S : Nat → Prop} {A B C : World} (h : Only (fun _ => False) A B) (g : Only S B C) (hs : ∀ k, S k → A.heap.size ≤ k) : Only (fun _ => False) A C :=
  ⟨g.os.trans h.os, g.tape.trans h.tape, g.output.trans h.output, Nat.le_trans h.size g.size, fun k hk _ => (g.block k (Nat.lt_of_lt_of_le hk h.size) (fun q => by have := hs k q; omega)).trans (h.block k hk id)⟩
theorem only_put (W : World) (l : Nat) (o' : Obj) : Only (fun k => k = l) W (W.putObj l o') := ⟨rfl, rfl, rfl, by simp, fun k _ hk => World.putObj_heap_other hk⟩
/-- a round's part is over: the frame anew -/
theorem Gd.turn {ws : World} {D : Nat} {F : Fr} {hp hp' : Nat → Option Ob} {G G' : Gh} {W W1 W' : World} (hd : Gd ws D F W) (hD : ws.heap.size ≤ D) {sl' : Nat → AV} {n : Nat} {a : Act} (hr : Rep F n sl' hp' G' a W1) (ho : Only (fun k => k = D + 1) W1 W') :
    Gd ws D (F.turn hp' G' W1 W') W' := by
  have hfr := hr.hp.fr
  rw [hd.w0] at hfr
  have hlt := hd.lt
  refine ⟨rfl, ?_, ?_, Nat.lt_of_lt_of_le (Nat.lt_of_lt_of_le hlt hfr.size) ho.size, fun k hk => ?_, ?_⟩
  · rintro ⟨q | q, _⟩
    · exact hd.d q
    · rw [hd.w0] at q; omega
  · rintro ⟨q | q, _⟩
    · exact hd.l q
    · rw [hd.w0] at q; omega
  · obtain ⟨b, ob, h1, h2⟩ := hk
    rcases (hr.hp.bd b ob h1 k h2).2 with q | q
    · exact hd.s k q
    · rw [hd.w0] at q
      have := hd.on.size
      omega
  · exact only_trans (only_trans hd.on hfr hd.s) ho (fun k hk => by omega)
theorem Gd.keepL {ws : World} {D : Nat} {F : Fr} {hp' : Nat → Option Ob} {G' : Gh} {W W1 : World} (hd : Gd ws D F W) {sl' : Nat → AV} {n : Nat} {a : Act} (hr : Rep F n sl' hp' G' a W1) : W1.heap[D + 1]? = W.heap[D + 1]? ∧ W1.heap[D]? = W.heap[D]? ∧ ¬ (F.Z (D + 1) ∨ F.w0.heap.size ≤ D + 1) := by
  have hfr := hr.hp.fr
  rw [hd.w0] at hfr
  have hlt := hd.lt
  exact ⟨hfr.block _ hlt (fun q => hd.l (hr.hp.zs _ q)), hfr.block _ (by omega) (fun q => hd.d (hr.hp.zs _ q)), fun q => q.elim hd.l (fun q => by rw [hd.w0] at q; omega)⟩

theorem Gd.sus {ws : World} {D : Nat} {F : Fr} {W : World} (h : Gd ws D F W) (o : Nat → Value) : Gd ws D (F.sus o) W := ⟨h.w0, h.d, h.l, h.lt, h.s, h.on⟩
theorem Gd.unold {ws : World} {D : Nat} {F : Fr} {W : World} (h : Gd ws D F W) (o : Nat → Value) : Gd ws D { F with old := o } W := ⟨h.w0, h.d, h.l, h.lt, h.s, h.on⟩
theorem RepH.unold {F : Fr} {hp : Nat → Option Ob} {G : Gh} {w : World} (h : RepH F hp G w) (o : Nat → Value) : RepH { F with old := o } hp G w := ⟨h.sat, h.dj, h.bd, h.fr, h.zs, h.tb⟩

theorem turn_old {F : Fr} {hp : Nat → Option Ob} {G : Gh} {W W' : World} {t : Nat} : (F.turn hp G W W').old t = F.old t := rfl
theorem okay_unold {F : Fr} {o : Nat → Value} {hp : Nat → Option Ob} {G : Gh} : Okay { F with old := o } hp G = Okay F hp G := rfl
theorem oldS_unold {F K : Fr} {a0 : Act} : oldS { K with old := F.old } a0 = oldS F a0 := by
  funext t
  unfold oldS
  generalize t - SUS = u
  by_cases hu : u < SUS
  · rw [vl_lt hu, vl_lt hu]
  · rw [vl_ge hu, vl_ge hu]
theorem back_of {F K : Fr} {w : World} {G : Gh} {A : Nat → Prop} {sl : List SEnt} {a0 a' : Act} (ho : ∀ t, K.old t = oldS F a0 t) (h : ∀ t, (look sl t).rel w G A (vl K a' t)) (t : Nat) : (look (unm sl) t).rel w G A (vl { K with old := F.old } a0 t) := by
  refine sus_back (a' := a') (fun t => ?_) t
  have h := h t
  rw [oldS_unold]
  by_cases hu : t < SUS
  · rw [vl_lt hu] at h ⊢; exact h
  · rw [vl_ge hu] at h ⊢; rw [sus_old]; rw [ho] at h; exact h
def opts : List SEnt → Bool
  | [] => true
  | .put t _ :: r => Nat.blt t SUS && opts r
  | _ :: _ => false
theorem look_dbl {b : List SEnt} : ∀ {a : List SEnt}, opts a = true → ∀ t, (t < SUS → look (a ++ .mark :: b) t = look a t) ∧ (SUS ≤ t → look (a ++ .mark :: b) t = look b (t - SUS))
  | [], _, t => by
    rw [List.nil_append, look_mark]
    exact ⟨fun h => by rw [if_pos h]; rfl, fun h => by rw [if_neg (by omega)]⟩
  | .put s x :: r, h, t => by
    obtain ⟨h1, h2⟩ := Bool.and_eq_true_iff.1 (show (Nat.blt s SUS && opts r) = true from h)
    have h1 : s < SUS := Nat.le_of_ble_eq_true h1
    obtain ⟨i1, i2⟩ := look_dbl (b := b) h2 t
    rw [List.cons_append]
    constructor
    · intro ht
      show (bif Nat.beq t s then x else look (r ++ .mark :: b) t) = bif Nat.beq t s then x else look r t
      rw [i1 ht]
    · intro ht
      show (bif Nat.beq t s then x else look (r ++ .mark :: b) t) = _
      rw [beq_ne (by omega)]
      exact i2 ht
  | .scr _ :: _, h, _ => by cases h
  | .mark :: _, h, _ => by cases h

/-- **a range over a function whose iterator only reads**: two loop variables, N rounds, counted down -/
theorem wpIn_range_reads (htb : ∀ w, Tb w) {P : Program} {C : CallH} {E : Env} (hE : E.Fine P) {n : Nat} (hC : CallOk P n C) (hm : CMono C) {m : Nat} (hm1 : 1 ≤ m) {g : Operand} {p1 p2 : Tmp} {assign body : Code} {Q : Exit → Act → World → Prop} {a0 : Act} {w ws : World}
    {gf gb : Nat} (eg : ∀ args w, (callFunc gf args).run P w = .ok (.enter gf args) w) {F0 : Fr} {G0 : Gh} {sl0 : List SEnt} (H : Nat → List HEnt) (N : Nat) (x1 x2 : Nat → AV)
    (hg : evA (look sl0) g = .v false [.fn gf [gb]]) (ho : opts sl0 = true) (hp : p1 < n ∧ p2 < n) (hdef : noDefC assign = true ∧ noDefC body = true)
    (hr : Rep F0 n (look sl0) (hget (H N)) G0 a0 w) (hS : ∀ k, F0.S k → ws.heap.size ≤ k) (hw0 : ws.heap.size ≤ F0.w0.heap.size) (hon : Only (fun _ => False) ws w)
    (hround : ∀ k, k < N → mx C E n (.seq assign body) (.put p2 (x2 k) :: .put p1 (x1 k) :: (sl0 ++ .mark :: sl0)) (H (k + 1)) (fun e s t => e = .normal ∧ Wk n (unm s) t sl0 (H k)))
    (hseq : ∀ (l tb : Nat) (J : Nat → World → Prop) (W : World), (∀ k W1, J k W1 → ∃ F G, Rep F n (look sl0) (hget (H k)) G a0 W1 ∧ boxAt G gb tb) →
      (∀ k W1, J (k + 1) W1 → k < N → ∃ F G, Rep F n (look sl0) (hget (H (k + 1))) G a0 W1 ∧ boxAt G gb tb ∧ ∀ v1 v2, (x1 k).rel W1 G (Okay F (hget (H (k + 1))) G) v1 → (x2 k).rel W1 G (Okay F (hget (H (k + 1))) G) v2 →
        YieldAt Fence.wide (m - 1 - 1) P l #[v1, v2] W1 fun e W' => e = .returned (.bool true) ∧ J k W') →
      J N W → CallsIn Fence.wide (m - 1) P gf #[.func (.yield l) #[] #[], .pointer (some ⟨tb, 0, none⟩)] W fun e W' => (∃ v, e = .returned v) ∧ J 0 W')
    (hdone : ∀ (D : Nat) (W : World) (F : Fr) (G : Gh), ws.heap.size ≤ D → Gd ws D F W → Rep F n (look sl0) (hget (H 0)) G a0 W → W.heap[D]? = some (.deferred (some [])) → Q .normal { a0 with defers := { target := .collected D, args := #[] } :: a0.defers } W) :
    (Code.rangeFunc g #[p1, p2] assign body).wpIn Fence.wide m P Q a0 w := by
  have hS0 : ∀ k, (F0.Z k ∨ F0.w0.heap.size ≤ k) ∧ k < w.heap.size → k < w.heap.size := fun _ h => h.2
  obtain ⟨tb, htb0, hgv⟩ : ∃ tb, boxAt G0 gb tb ∧ a0.eval g = .func (.func gf) #[] #[.pointer (some ⟨tb, 0, none⟩)] := by
    have h1 := evA_rel hr.sl g
    rw [hg] at h1
    obtain ⟨gs, h1, h2, h3⟩ := AV.one_rel (x := .v false [.fn gf [gb]]) rfl h1
    match gs, h2, h1, h3 with
    | [t], _, h1, h3 => exact ⟨t, h3 0 (by simp) (by simp), h1⟩
  have hbox : ∀ F G k W, Rep F n (look sl0) (hget (H k)) G a0 W → boxAt G gb tb := by
    intro F G k W hr
    have h1 := evA_rel hr.sl g
    rw [hg] at h1
    obtain ⟨gs, h1, h2, h3⟩ := AV.one_rel (x := .v false [.fn gf [gb]]) rfl h1
    match gs, h2, h1, h3 with
    | [t], _, h1, h3 =>
      rw [hgv] at h1
      have : tb = t := by simpa using h1
      rw [this]
      exact h3 0 (by simp) (by simp)
  refine wpIn_rangeFunc ?_
  intro fn hfn
  obtain ⟨rec, hrec⟩ : ∃ rec : LoopState → Option Code → Loop, rec = fun st pe => { state := st, pending := pe, fn, tmps := a0.tmps, params := #[p1, p2], assign, body, defers := w.heap.size } := ⟨_, rfl⟩
  obtain ⟨W1, hW1⟩ : ∃ W1, (w.alloc (.deferred (some []))).alloc (.loop (rec .ready none)) = W1 := ⟨_, rfl⟩
  have hL1 : W1.heap[w.heap.size + 1]? = some (.loop (rec .ready none)) := by
    rw [← hW1]; have := World.alloc_heap_new (w.alloc (.deferred (some []))) (.loop (rec .ready none)); rwa [World.size_alloc] at this
  have hK1 : W1.heap[w.heap.size]? = some (.deferred (some [])) := by
    rw [← hW1]; exact (Below.heap_alloc _ _ _ (by simp)).trans (World.alloc_heap_new w _)
  have hb1 : Only (fun _ => False) w W1 := by
    rw [← hW1]; exact ((Only.refl _ w).alloc _).alloc _
  have hsz1 : W1.heap.size = w.heap.size + 2 := by rw [← hW1]; simp
  have hgd1 : Gd ws w.heap.size (F0.turn (hget (H N)) G0 w W1) W1 := by
    refine ⟨rfl, fun q => absurd q.2 (Nat.lt_irrefl _), fun q => absurd q.2 (by omega), by omega, fun k hk => ?_, only_trans hon hb1 (fun _ h => h.elim)⟩
    obtain ⟨b, ob, h1, h2⟩ := hk
    rcases (hr.hp.bd b ob h1 k h2).2 with q | q
    · exact hS k q
    · omega
  have hr1 := hr.turn htb (B := fun _ => False) (fun _ h => h.elim) hb1
  have hwD : ws.heap.size ≤ w.heap.size := hon.size
  refine ⟨w.heap.size + 1, [{ target := .collected w.heap.size, args := #[] }], W1, { target := .fn (.func gf) #[.pointer (some ⟨tb, 0, none⟩)], args := #[.func (.yield (w.heap.size + 1)) #[] #[]] }, W1, gf,
    #[.func (.yield (w.heap.size + 1)) #[] #[], .pointer (some ⟨tb, 0, none⟩)], W1, ?_, ?_, ?_, ?_, fun _ => hm1, ?_⟩
  · rw [← hW1, hrec]; exact run_enterLoop_outer _ _ _ _ _
  · simp only [resolve, hgv]
    simp [go_sem]
  · intro f' hf'; simp [Target.leads] at hf'; subst hf'; trivial
  · simp [invoke, go_sem, eg]
  · refine (hseq (w.heap.size + 1) tb (fun k W => (∃ F G, Gd ws w.heap.size F W ∧ Rep F n (look sl0) (hget (H k)) G a0 W) ∧ W.heap[w.heap.size + 1]? = some (.loop (rec .ready none)) ∧ W.heap[w.heap.size]? = some (.deferred (some []))) W1
      (fun k W1 ⟨⟨F, G, _, h2⟩, _⟩ => ⟨F, G, h2, hbox _ _ _ _ h2⟩) ?_ ⟨⟨_, _, hgd1, hr1⟩, hL1, hK1⟩).mono ?_
    · rintro k W ⟨⟨F, G, hgd, hrep⟩, hl, hk⟩ hlt
      refine ⟨F, G, hrep, hbox _ _ _ _ hrep, fun v1 v2 hv1 hv2 => ?_⟩
      have hy := run_yield (P := P) (args := #[v1, v2]) hl (by rw [hrec]; rfl)
      rw [hrec] at hy
      obtain ⟨a1, ha1⟩ : ∃ a1 : Act, a1 = { tmps := (#[p1, p2].zip #[v1, v2]).foldl (fun t (p, v) => t.setIfInBounds p v) a0.tmps, defers := [] } := ⟨_, rfl⟩
      have hat : a1.tmps = (a0.tmps.setIfInBounds p1 v1).setIfInBounds p2 v2 := by rw [ha1]; simp
      have hrep1 : Rep (F.sus (oldS F a0)) n (look (.put p2 (x2 k) :: .put p1 (x1 k) :: (sl0 ++ .mark :: sl0))) (hget (H (k + 1))) G a1 W := by
        refine ⟨by rw [ha1], by rw [hat]; simp [hrep.sz], hrep.lm, fun t => ?_, hrep.hp.sus _⟩
        rw [okay_sus]
        have hlm := hrep.lm
        by_cases ht : t < SUS
        · rw [vl_lt ht, hat]
          have hold := hrep.sl t
          rw [vl_lt ht] at hold
          show (bif Nat.beq t p2 then x2 k else bif Nat.beq t p1 then x1 k else look (sl0 ++ .mark :: sl0) t).rel _ _ _ _
          rw [(look_dbl ho t).1 ht]
          simp only [Array.getD_eq_getD_getElem?, Array.getElem?_setIfInBounds] at hold ⊢
          by_cases h2 : t = p2
          · subst h2
            rw [beq_self, if_pos rfl, if_pos (by simp [hrep.sz]; exact hp.2)]
            exact hv2
          · rw [beq_ne h2, if_neg (fun e => h2 e.symm)]
            by_cases h1 : t = p1
            · subst h1
              rw [beq_self, if_pos rfl, if_pos (by rw [hrep.sz]; exact hp.1)]
              exact hv1
            · rw [beq_ne h1, if_neg (fun e => h1 e.symm)]
              exact hold
        · rw [vl_ge ht, sus_old]
          show (bif Nat.beq t p2 then x2 k else bif Nat.beq t p1 then x1 k else look (sl0 ++ .mark :: sl0) t).rel _ _ _ _
          have n2 : t ≠ p2 := fun e => ht (e ▸ Nat.lt_of_lt_of_le hp.2 hlm)
          have n1 : t ≠ p1 := fun e => ht (e ▸ Nat.lt_of_lt_of_le hp.1 hlm)
          have key := sus_in (F := F) (sl := sl0) (a := a0) hrep.sl t (Nat.le_of_not_lt ht)
          rw [look_mark, if_neg ht, sus_old] at key
          rw [beq_ne n2, beq_ne n1, (look_dbl ho t).2 (Nat.le_of_not_lt ht)]
          exact key
      have hgd1 : Gd ws w.heap.size (F.sus (oldS F a0)) W := hgd.sus _
      refine ⟨fn, _, assign, body, hy, roundIn_of_wpIn hfn ?_⟩
      rw [← ha1]
      have hmx := hround k hlt
      replace hmx : mx C E n assign _ _ (seqQ (mx C E n body) _) := hmx
      refine wpIn_mono (mx_wpIn (w.heap.size + 1) (m - 1 - 1) hE hC hm assign hdef.1 _ _ _ hmx G a1 W hrep1) ?_
      rintro e a2 W2 hq
      cases e with
      | normal =>
        obtain ⟨s, t, G2, hrep2, hmx2⟩ := hq
        replace hmx2 : mx C E n body s t _ := hmx2
        obtain ⟨hl2, hk2, hn2⟩ := hgd1.keepL hrep2
        rw [hl] at hl2
        rw [hk] at hk2
        have hsz2 : w.heap.size + 1 < W2.heap.size := (Array.getElem?_eq_some_iff.1 hl2).1
        refine ⟨_, run_beginRound hl2 (by rw [hrec]), ?_⟩
        have ho2 := only_put W2 (w.heap.size + 1) (.loop { rec .ready none with state := .busy })
        have hl3 : (W2.putObj (w.heap.size + 1) (.loop { rec .ready none with state := .busy })).heap[w.heap.size + 1]? = some (.loop { rec .ready none with state := .busy }) := World.putObj_heap_same hsz2
        have hk3 : (W2.putObj (w.heap.size + 1) (.loop { rec .ready none with state := .busy })).heap[w.heap.size]? = some (.deferred (some [])) := (World.putObj_heap_other (by omega)).trans hk2
        have hrep3 := hrep2.turn htb (B := fun k => k = w.heap.size + 1) (fun k hk => by rw [hk]; exact hn2) ho2
        have hgd3 := hgd1.turn (hp := hget (H (k + 1))) (G := G) hwD hrep2 ho2
        refine wpIn_mono (mx_wpIn (w.heap.size + 1) (m - 1 - 1) hE hC hm body hdef.2 _ _ _ hmx2 G2 a2 _ hrep3) ?_
        rintro e a4 W4 hq
        have hq : ∃ s' t' G4, e = .normal ∧ Rep (Fr.turn (F.sus (oldS F a0)) (hget t) G2 W2 (W2.putObj (w.heap.size + 1) (.loop { rec .ready none with state := .busy }))) n (look s') (hget t') G4 a4 W4 ∧ Wk n (unm s') t' sl0 (H k) := by
          cases e with
          | normal => obtain ⟨s', t', G4, q1, q2, q3⟩ := hq; exact ⟨s', t', G4, rfl, q1, q3⟩
          | exit j => obtain ⟨s', t', G4, q1, q2, q3⟩ := hq; cases q2
          | ret => obtain ⟨s', t', G4, q1, q2, q3⟩ := hq; cases q2
          | goto l => exact hq.elim
          | panic c => exact hq.elim
          | outgrown => exact hq.elim
        obtain ⟨s', t', G4, rfl, hrep4, hwk⟩ := hq
        obtain ⟨hl4, hk4, hn4⟩ := hgd3.keepL hrep4
        rw [hl3] at hl4
        rw [hk3] at hk4
        have hre := run_endRound (P := P) none hl4
        have ho4 := only_put W4 (w.heap.size + 1) (.loop { rec .ready none with state := .ready })
        have hback : Rep (Fr.turn (F.sus (oldS F a0)) (hget t) G2 W2 (W2.putObj (w.heap.size + 1) (.loop { rec .ready none with state := .busy }))) n (look s') (hget t') G4 a4 W4 := hrep4
        have hu : Rep F n (look sl0) (hget (H (k + 1))) G a0 W := hrep
        have hr5 : Rep { (Fr.turn (F.sus (oldS F a0)) (hget t) G2 W2 (W2.putObj (w.heap.size + 1) (.loop { rec .ready none with state := .busy }))) with old := F.old } n (look (unm s')) (hget t') G4 a0 W4 := by
          refine ⟨hu.df, hu.sz, hu.lm, fun t5 => ?_, hrep4.hp.unold _⟩
          rw [okay_unold]
          exact back_of (F := F) (a' := a4) (fun t => by rw [turn_old, sus_old]) hrep4.sl t5
        obtain ⟨G5, hr6⟩ := hwk _ _ _ _ hr5
        have hgd5 : Gd ws w.heap.size { (Fr.turn (F.sus (oldS F a0)) (hget t) G2 W2 (W2.putObj (w.heap.size + 1) (.loop { rec .ready none with state := .busy }))) with old := F.old } (W2.putObj (w.heap.size + 1) (.loop { rec .ready none with state := .busy })) := hgd3.unold _
        have hsz4 : w.heap.size + 1 < W4.heap.size := (Array.getElem?_eq_some_iff.1 hl4).1
        refine ⟨_, _, hre, rfl, ⟨_, _, hgd5.turn (hp := hget (H k)) (G := G5) hwD hr6 ?_, hr6.turn htb (B := fun k => k = w.heap.size + 1) (fun k hk => by rw [hk]; exact hn4) ?_⟩, ?_, ?_⟩
        · exact only_put _ _ _
        · exact only_put _ _ _
        · have := World.putObj_heap_same (o := .loop (rec .ready none)) hsz4
          rw [hrec] at this ⊢
          exact this
        · exact (World.putObj_heap_other (by omega)).trans hk4
      | exit j => obtain ⟨s', t', G4, q1, q2, q3⟩ := hq; cases q2
      | ret => obtain ⟨s', t', G4, q1, q2, q3⟩ := hq; cases q2
      | goto l => exact hq.elim
      | panic c => exact hq.elim
      | outgrown => exact hq.elim
    · rintro e W2 ⟨⟨v, rfl⟩, ⟨F, G, hgd, hrep⟩, hl, hk⟩
      obtain ⟨hl4, hk4, hn4⟩ := hgd.keepL hrep
      refine ⟨none, _, by have := run_endLoop (P := P) hl (by rw [hrec]; simp); rw [hrec] at this; exact this, ?_⟩
      exact hdone _ _ _ _ hwD (hgd.turn (hp := hget (H 0)) (G := G) hwD hrep (only_put _ _ _)) (hrep.turn htb (B := fun k => k = w.heap.size + 1) (fun k hk => by rw [hk]; exact hn4) (only_put _ _ _)) ((World.putObj_heap_other (by omega)).trans hk)
end Go.Proofs.Ytgdlbpihkodeoaa
