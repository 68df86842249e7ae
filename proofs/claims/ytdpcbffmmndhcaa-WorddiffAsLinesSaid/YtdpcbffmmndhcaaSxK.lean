/- Sx, part K: one step of the executor is right. -/
import Derived.Test.YtdpcbffmmndhcaaSxJ
namespace Go.Proofs.Ytdpcbffmmndhcaa
open Go.RowKit

theorem run_callFunc {P : Program} {w : World} {f : FuncId} {fn : Func} (args : Array Value) (hf : P.funcs[f]? = some fn) (hb : fn.body.isSome = true) (hn : (fn.name == "runtime.NumGoroutine") = false) : (callFunc f args).run P w = .ok (.enter f args) w := by
  have hb' : fn.body.isNone = false := by cases h : fn.body <;> simp [h] at hb ⊢
  simp only [callFunc, Sem.run_bind, run_program, Result.andThen_ok, hf, hn, Bool.false_eq_true, if_false, hb', Sem.run_pure]

theorem run_call {P : Program} {ρ : Operand → Value} {o : Oper} {w : World} {g : Operand} {args : Array Operand} {ts : Array TypeId} (ho : o.op = .call { callee := .value g, args := args, argTypes := ts }) {f : FuncId} {cs : List Value} {fn : Func}
    (hg : ρ g = .func (.func f) #[] cs.toArray) (hf : P.funcs[f]? = some fn) (hb : fn.body.isSome = true) (hn : (fn.name == "runtime.NumGoroutine") = false) :
    (execOp ρ o).run P w = .ok (.enter f (args.toList.map ρ ++ cs).toArray) w := by
  have : args.map ρ ++ cs.toArray = (args.toList.map ρ ++ cs).toArray := by
    apply Array.toList_inj.1
    simp
  simp only [execOp, ho, resolve, hg, Deferred.ofValue, Sem.run_bind, Sem.run_pure, Result.andThen_ok, invoke, Array.empty_append, this, run_callFunc _ hf hb hn]

theorem callee_rel {w : World} {G : Gh} {A : Nat → Prop} {ρ : Operand → Value} {ev : Operand → AV} (h : ∀ x, (ev x).rel w G A (ρ x)) {g : Operand} {f : FuncId} {cs : List AV} (e : callee ev g = some (f, cs)) :
    ∃ vs, ρ g = .func (.func f) #[] vs.toArray ∧ relAs w G A cs vs := by
  unfold callee at e
  split at e
  · rename_i f' c hone
    cases e
    obtain ⟨gs, h1, h2, h3⟩ := AV.one_rel hone (h g)
    refine ⟨_, h1, ?_⟩
    clear h1 hone
    induction c generalizing gs with
    | nil =>
      have : gs = [] := List.eq_nil_of_length_eq_zero h2
      subst this
      rfl
    | cons b c ih =>
      match gs, h2 with
      | k :: gs, h2 =>
        refine ⟨_, _, rfl, AV.rel_of ⟨k, h3 0 (by simp) (by simp), rfl⟩, ih gs (by simpa using h2) (fun i hi hi' => ?_)⟩
        have := h3 (i + 1) (by simpa using hi) (by simpa using hi')
        simpa using this
  · cases e

theorem cOpt_rel {w : World} {G : Gh} {A : Nat → Prop} {ρ : Operand → Value} {ev : Operand → AV} (h : ∀ x, (ev x).rel w G A (ρ x)) {x : Option Operand} {l : Option Lf} (e : cOpt ev x = some l) : optRel w G A l (x.map ρ) := by
  unfold cOpt at e
  split at e
  · cases e; rfl
  · rename_i y
    split at e
    · rename_i l' hone
      cases e
      exact ⟨ρ y, rfl, AV.one_rel hone (h y)⟩
    · cases e

theorem two_rel {w : World} {G : Gh} {A : Nat → Prop} {x : AV} {a b : Int} {v : Value} (e : two x = some (a, b)) (h : x.rel w G A v) : v = .agg #[.int .i64 a, .int .i64 b] := by
  unfold two at e
  split at e
  · rename_i a' b'
    cases e
    obtain ⟨vs, ⟨v1, r, rfl, h1, v2, r2, rfl, h2, h3⟩, rfl, _⟩ := h
    obtain rfl := (show r2 = _ from h3)
    have e1 : v1 = .int .i64 a := by simpa using h1.1
    have e2 : v2 = .int .i64 b := by simpa using h2.1
    rw [e1, e2]
    rfl
  · cases e

theorem Aft.step {F : Fr} {hp : Nat → Option Ob} {G : Gh} {w : World} {x : AV} {v : Value} {w' : World} {u : List HEnt} {hp' : Nat → Option Ob} {nw : List Nat} (h : Aft F hp G w hp' x nw v w') (e : happ u hp = hp') : Aft F hp G w (happ u hp) x nw v w' := by
  rw [e]; exact h

theorem Runs.mono {P : Program} {ρ : Operand → Value} {o : Oper} {w : World} {R R' : Value → World → Prop} (h : Runs P ρ o w R) (hr : ∀ v w', R v w' → R' v w') : Runs P ρ o w R' := by
  unfold Runs at *
  split at h
  · exact hr _ _ h
  · exact hr _ _ h
  · refine Calls.mono h ?_
    rintro e w' ⟨v, h1, h2⟩
    exact ⟨v, h1, hr _ _ h2⟩
  · exact h

theorem max_if (a b : Int) : max a b = if b > a then b else a := by
  by_cases q : b > a
  · rw [if_pos q]; omega
  · rw [if_neg q]; omega
theorem min_if (a b : Int) : min a b = if b < a then b else a := by
  by_cases q : b < a
  · rw [if_pos q]; omega
  · rw [if_neg q]; omega
theorem capN_rel {w : World} {G : Gh} {A : Nat → Prop} {ρ : Operand → Value} {ev : Operand → AV} (h : ∀ x, (ev x).rel w G A (ρ x)) : ∀ {xs : List Operand} {bs : List Nat}, capN ev xs = some bs →
    ∃ gs : List Nat, xs.map ρ = (gs.map fun g => Value.pointer (some ⟨g, 0, none⟩)) ∧ gs.length = bs.length ∧ ∀ i (h : i < bs.length) (h' : i < gs.length), boxAt G bs[i] gs[i]
  | [], bs, e => by cases e; exact ⟨[], rfl, rfl, fun i h => by simp at h⟩
  | x :: xs, bs, e => by
    unfold capN at e
    split at e
    · rename_i b bs' hx hxs
      cases e
      obtain ⟨gs, g1, g2, g3⟩ := capN_rel h hxs
      obtain ⟨g, k1, k2⟩ := AV.one_rel hx (h x)
      refine ⟨g :: gs, by rw [List.map_cons, List.map_cons, g1, k2], by simp [g2], fun i hi hi' => ?_⟩
      cases i with
      | zero => exact k1
      | succ i => exact g3 i (by simpa using hi) (by simpa using hi')
    · cases e

theorem stepA_sound {P : Program} {E : Env} (hE : E.Ok P) {o : Oper} {d : Nat} {ev : Operand → AV} {hp : Nat → Option Ob} {r : Res} (e : stepA E o d ev hp = some r) (hs : r.side) {F : Fr} {G : Gh} {w : World} {ρ : Operand → Value}
    (h : RepH F hp G w) (hev : ∀ x, (ev x).rel w G (Okay F hp G) (ρ x)) : (r.nw = [] ∨ r.nw = [d]) ∧ Runs P ρ o w (Aft F hp G w (happ r.hu hp) r.val r.nw) := by
  unfold stepA at e
  split at e
  · -- move
    rename_i x ho
    cases e
    exact ⟨.inl rfl, Runs.of_ok (v := ρ x) (w' := w) (by simp only [execOp, ho]; rfl) (Aft.still h (hev x))⟩
  · rename_i x ho
    cases e
    exact ⟨.inl rfl, Runs.of_ok (v := ρ x) (w' := w) (by simp only [execOp, ho]; rfl) (Aft.still h (hev x))⟩
  · -- pick
    rename_i c x y ho
    split at e
    · rename_i t hone
      cases e
      have hc : ρ c = .bool t := by
        have := AV.one_rel hone (hev c)
        simpa using (show [ρ c] = [.bool t] from this)
      refine ⟨.inl rfl, Runs.of_ok (v := bif t then ρ x else ρ y) (w' := w) ?_ (Aft.still h ?_)⟩
      · simp only [execOp, ho, hc, asBool, Sem.run_bind, Sem.run_pure, Result.andThen_ok]
        cases t <;> rfl
      · cases t
        · exact hev y
        · exact hev x
    · cases e
  · -- nilCheck
    rename_i x ho
    split at e
    · rename_i l hone
      cases hk : okNil l
      · rw [hk] at e; cases e
      · rw [hk] at e
        cases e
        refine ⟨.inl rfl, nilCheck_sound x ho (by cases l <;> first | rfl | cases hk) h (AV.one_rel hone (hev x))⟩
    · cases e
  · -- fieldAddr
    rename_i s x f ho
    split at e
    · rename_i i l hi hone
      split at e
      · rename_i fs hk
        split at e
        · rename_i off ft hf
          split at e
          · rename_i j y hj hy
            cases e
            obtain ⟨g, q, hv, hr⟩ := cField_rel hy (AV.one_rel hone (hev x))
            have hjk := hE.tl _ _ hj
            exact ⟨.inl rfl, Runs.of_ok (run_fieldAddr s x f ho (hE.tl _ _ hi).1 hk hf hjk.1 (by have := hjk.2.2; omega) hv) (Aft.still h (AV.rel_of hr))⟩
          · cases e
        · cases e
      · cases e
    · cases e
  · -- load
    rename_i t x ho
    split at e
    · rename_i i l hi hone
      split at e
      · rename_i sd y hc
        cases e
        exact ⟨.inl rfl, cLoad_sound t x ho (hE.tl _ _ hi).1 (hE.tl _ _ hi).2.1 hc hs h (AV.one_rel hone (hev x))⟩
      · cases e
    · cases e
  · -- store
    rename_i t x y ho
    split at e
    · rename_i i l hi hone
      split at e
      · rename_i sd b ob hc
        cases e
        exact ⟨.inl rfl, cStore_sound t x y ho (hE.tl _ _ hi).1 (hE.tl _ _ hi).2.1 hc hs h (AV.one_rel hone (hev x)) (hev y)⟩
      · cases e
    · cases e
  · -- alloc
    rename_i T ho
    split at e
    · rename_i i hi
      cases e
      exact ⟨.inr rfl, alloc_sound T ho (hE.tl _ _ hi).1 (hE.tl _ _ hi).2.1 d h⟩
    · cases e
  · -- box
    rename_i T x ho
    split at e
    · rename_i agg ls hx
      cases e
      have := hev x
      rw [hx] at this
      exact ⟨.inr rfl, box_sound T x ho d h this⟩
    · cases e
  · -- build
    rename_i T parts ho
    split at e
    · rename_i i hi
      split at e
      · rename_i fs hk
        cases hall : fs.all (fun f => (E.tl f.2).isSome)
        · rw [hall] at e; cases e
        · rw [hall] at e
          simp only [cond_true] at e
          split at e
          · rename_i ls hc
            cases e
            exact ⟨.inl rfl, build_sound (fun t i hh => (hE.tl t i hh).1) T parts ho (hE.tl _ _ hi).1 (hE.tl _ _ hi).2.1 hk hall hev hc h⟩
          · cases e
      · rename_i m el hk
        split at e
        · rename_i j hj
          split at e
          · rename_i ls hc
            cases e
            exact ⟨.inl rfl, buildArr_sound T parts ho (hE.tl _ _ hi).1 (hE.tl _ _ hi).2.1 hk (hE.tl _ _ hj).1 hev hc h⟩
          · cases e
        · cases e
      · cases e
    · cases e
  · -- buildSlice
    rename_i T n parts ho
    split at e
    · rename_i i hi
      split at e
      · rename_i el hk
        split at e
        · rename_i j hj
          cases hle : Nat.ble (n * j.size) 1000000
          · rw [hle] at e; cases e
          · rw [hle] at e
            simp only [cond_true] at e
            split at e
            · rename_i ls hc
              cases e
              exact ⟨.inr rfl, buildSlice_sound T el n parts ho (hE.tl _ _ hi).1 hk (hE.tl _ _ hj).1 (hE.tl _ _ hj).2.1 (hE.tl _ _ hj).2.2 (Nat.le_of_ble_eq_true hle) hev d hc h⟩
            · cases e
        · cases e
      · cases e
    · cases e
  · -- makeSlice
    rename_i T x y ho
    split at e
    · rename_i i lx ly hi hx hy
      split at e
      · rename_i el n m hk hn hm
        split at e
        · rename_i j t hj ht
          cases e
          obtain ⟨hmn, h0, h1, h2⟩ := hs
          subst hmn
          obtain ⟨k1, v1⟩ := lfInt_rel hn (AV.one_rel hx (hev x))
          obtain ⟨k2, v2⟩ := lfInt_rel hm (AV.one_rel hy (hev y))
          obtain ⟨j', hj', hty⟩ := hE.ty _ _ ht
          rw [hj] at hj'
          cases hj'
          exact ⟨.inr rfl, make_sound T el x y ho (hE.tl _ _ hi).1 hk hty (hE.tl _ _ hj).2.1 v1 v2 h0 h1 h2 d h⟩
        · cases e
      · cases e
    · cases e
  · -- binOp
    rename_i op t x y u ho
    split at e
    · rename_i a b ha hb
      split at e
      · rename_i sd c hc
        cases e
        exact ⟨.inl rfl, cBin_sound op t u x y ho hc hs h (AV.one_rel ha (hev x)) (AV.one_rel hb (hev y))⟩
      · cases e
    · cases heq : E.eq t
      · rw [heq] at e; cases e
      · rw [heq] at e
        simp only [cond_true] at e
        have h2 := hE.eq t heq
        split at e
        · rename_i a b c d' h3 h4
          cases e
          have q1 := two_rel h3 (hev x)
          have q2 := two_rel h4 (hev y)
          have := (h2 a b c d' x y w).1
          refine ⟨.inl rfl, Runs.of_ok (v := .bool (decide (a = c) && decide (b = d'))) ?_ (Aft.still h (AV.rel_of mkB_rel))⟩
          simp only [execOp, ho, q1, q2, Sem.run_bind, Sem.run_pure]
          rw [Sem.run_bind] at this
          rw [this]
          rfl
        · rename_i a b c d' h3 h4
          cases e
          have q1 := two_rel h3 (hev x)
          have q2 := two_rel h4 (hev y)
          have := (h2 a b c d' x y w).2
          refine ⟨.inl rfl, Runs.of_ok (v := .bool (!(decide (a = c) && decide (b = d')))) ?_ (Aft.still h (AV.rel_of mkB_rel))⟩
          simp only [execOp, ho, q1, q2, Sem.run_bind, Sem.run_pure]
          rw [Sem.run_bind] at this
          rw [this]
          rfl
        · cases e
  · -- unOp
    rename_i op t x ho
    split at e
    · rename_i a ha
      split at e
      · rename_i sd c hc
        cases e
        exact ⟨.inl rfl, cUn_sound op t x ho hc hs h (AV.one_rel ha (hev x))⟩
      · cases e
    · cases e
  · -- indexAddr
    rename_i T x y ho
    split at e
    · rename_i i a ix hi ha hix
      split at e
      · rename_i el hk
        split at e
        · rename_i j hj
          have hjk := hE.tl _ _ hj
          split at e
          · rename_i t l
            cases hts : Nat.beq t.size j.size
            · rw [hts] at e; cases e
            · rw [hts] at e
              simp only [cond_true] at e
              split at e
              · rename_i sd c hc
                cases e
                refine ⟨.inl rfl, cIndexAddr_sound T el x y ho (hE.tl _ _ hi).1 hjk.1 (.inl hk) hc hs ⟨fun t' l' e' => ?_, fun b e' => (by cases e')⟩ h (AV.one_rel ha (hev x)) (AV.one_rel hix (hev y))⟩
                cases e'
                exact ⟨hk, Nat.eq_of_beq_eq_true hts⟩
              · cases e
          · rename_i b
            split at e
            · rename_i E' t l hb
              cases hts : Nat.beq t.size j.size
              · rw [hts] at e; cases e
              · rw [hts] at e
                simp only [cond_true] at e
                split at e
                · rename_i sd c hc
                  cases e
                  refine ⟨.inl rfl, cIndexAddr_sound T el x y ho (hE.tl _ _ hi).1 hjk.1 (.inl hk) hc hs ⟨fun t' l' e' => (by cases e'), fun b' e' => ?_⟩ h (AV.one_rel ha (hev x)) (AV.one_rel hix (hev y))⟩
                  cases e'
                  refine ⟨hk, fun E2 t2 l2 hb2 => ?_, fun E2 t2 l1 c2 l2 hb2 => ?_⟩
                  · rw [hb] at hb2
                    cases hb2
                    exact Nat.eq_of_beq_eq_true hts
                  · rw [hb] at hb2; cases hb2
                · cases e
            · rename_i E' t q1 q2 q3 hb
              cases hts : Nat.beq t.size j.size
              · rw [hts] at e; cases e
              · rw [hts] at e
                simp only [cond_true] at e
                split at e
                · rename_i sd c hc
                  cases e
                  refine ⟨.inl rfl, cIndexAddr_sound T el x y ho (hE.tl _ _ hi).1 hjk.1 (.inl hk) hc hs ⟨fun t' l' e' => (by cases e'), fun b' e' => ?_⟩ h (AV.one_rel ha (hev x)) (AV.one_rel hix (hev y))⟩
                  cases e'
                  refine ⟨hk, fun E2 t2 l2 hb2 => ?_, fun E2 t2 l1 c2 l2 hb2 => ?_⟩
                  · rw [hb] at hb2; cases hb2
                  · rw [hb] at hb2
                    cases hb2
                    exact Nat.eq_of_beq_eq_true hts
                · cases e
            · rename_i E' m cs hb
              split at e
              · rename_i sd c hc
                cases e
                refine ⟨.inl rfl, cIndexAddr_sound T el x y ho (hE.tl _ _ hi).1 hjk.1 (.inl hk) hc hs ⟨fun t' l' e' => (by cases e'), fun b' e' => ?_⟩ h (AV.one_rel ha (hev x)) (AV.one_rel hix (hev y))⟩
                cases e'
                refine ⟨hk, fun E2 t2 l2 hb2 => ?_, fun E2 t2 l1 c2 l2 hb2 => ?_⟩
                · rw [hb] at hb2; cases hb2
                rw [hb] at hb2
                cases hb2
              · cases e
            · cases e
          · cases e
        · cases e
      · rename_i n el hk
        split at e
        · rename_i j hj
          have hjk := hE.tl _ _ hj
          split at e
          · rename_i b off
            split at e
            · rename_i sd c hc
              cases e
              exact ⟨.inl rfl, cIndexAddr_sound T el x y ho (hE.tl _ _ hi).1 hjk.1 (.inr ⟨n, hk⟩) hc hs ⟨fun t' l' e' => (by cases e'), fun b' e' => (by cases e')⟩ h (AV.one_rel ha (hev x)) (AV.one_rel hix (hev y))⟩
            · cases e
          · rename_i b q s k
            split at e
            · rename_i sd c hc
              cases e
              exact ⟨.inl rfl, cIndexAddr_sound T el x y ho (hE.tl _ _ hi).1 hjk.1 (.inr ⟨n, hk⟩) hc hs ⟨fun t' l' e' => (by cases e'), fun b' e' => (by cases e')⟩ h (AV.one_rel ha (hev x)) (AV.one_rel hix (hev y))⟩
            · cases e
          · rename_i t' x'
            split at e
            · rename_i sd c hc
              cases e
              exact ⟨.inl rfl, cIndexAddr_sound T el x y ho (hE.tl _ _ hi).1 hjk.1 (.inr ⟨n, hk⟩) hc hs ⟨fun t' l' e' => (by cases e'), fun b' e' => (by cases e')⟩ h (AV.one_rel ha (hev x)) (AV.one_rel hix (hev y))⟩
            · cases e
          · rename_i b q s k
            split at e
            · rename_i sd c hc
              cases e
              exact ⟨.inl rfl, cIndexAddr_sound T el x y ho (hE.tl _ _ hi).1 hjk.1 (.inr ⟨n, hk⟩) hc hs ⟨fun t' l' e' => (by cases e'), fun b' e' => (by cases e')⟩ h (AV.one_rel ha (hev x)) (AV.one_rel hix (hev y))⟩
            · cases e
          · cases e
        · cases e
      · cases e
    · cases e
  · -- index
    rename_i T x y ho
    split at e
    · rename_i i s ix hi ha hix
      split at e
      · rename_i n hk hn
        cases e
        exact ⟨.inl rfl, indexStr_sound T x y ho (hE.tl _ _ hi).1 hk hn hs h (AV.one_rel ha (hev x)) (AV.one_rel hix (hev y))⟩
      · cases e
    · rename_i i ix hi ha hix
      split at e
      · rename_i m el ls n hk hx hn
        split at e
        · rename_i j hj
          cases hle : Nat.ble (n.toNat * j.size + j.size) ls.length
          · rw [hle] at e; cases e
          · rw [hle] at e
            cases e
            have hax := hev x
            rw [hx] at hax
            exact ⟨.inl rfl, indexArr_sound T x y ho (hE.tl _ _ hi).1 hk (hE.tl _ _ hj).1 (hE.tl _ _ hj).2.1 (Nat.le_of_ble_eq_true hle) hn hs h hax (AV.one_rel hix (hev y))⟩
        · cases e
      · cases e
    · cases e
  · -- slice
    rename_i T x lo hi ho
    split at e
    · rename_i i a llo lhi hti ha hlo hhi
      split at e
      · rename_i t l el hk
        split at e
        · rename_i j hj
          cases hts : Nat.beq j.size t.size
          · rw [hts] at e; cases e
          · rw [hts] at e
            simp only [cond_true] at e
            split at e
            · rename_i sd c hc
              cases e
              refine ⟨.inl rfl, cSlice_sound T x lo hi ho (hE.tl _ _ hti).1 (cOpt_rel hev hlo) (cOpt_rel hev hhi) hc hs ⟨fun t' l' e' => ?_, fun s e' => (by cases e')⟩ h (AV.one_rel ha (hev x))⟩
              cases e'
              exact ⟨el, j, hk, (hE.tl _ _ hj).1, Nat.eq_of_beq_eq_true hts⟩
            · cases e
        · cases e
      · rename_i s hk
        split at e
        · rename_i sd c hc
          cases e
          exact ⟨.inl rfl, cSlice_sound T x lo hi ho (hE.tl _ _ hti).1 (cOpt_rel hev hlo) (cOpt_rel hev hhi) hc hs ⟨fun t' l' e' => (by cases e'), fun s e' => hk⟩ h (AV.one_rel ha (hev x))⟩
        · cases e
      · cases e
    · cases e
  · -- field
    rename_i s x f ho
    split at e
    · rename_i i ls hi hx
      split at e
      · rename_i fs hk
        split at e
        · rename_i off ft hf
          split at e
          · rename_i j hj
            cases hle : Nat.ble (off + j.size) ls.length
            · rw [hle] at e; cases e
            · rw [hle] at e
              cases e
              have := hev x
              rw [hx] at this
              exact ⟨.inl rfl, field_sound s x f ho (hE.tl _ _ hi).1 hk hf (hE.tl _ _ hj).1 (hE.tl _ _ hj).2.1 (Nat.le_of_ble_eq_true hle) h this⟩
          · cases e
        · cases e
      · cases e
    · cases e
  · -- extract
    rename_i x k ho
    split at e
    · rename_i es hx
      split at e
      · rename_i el he
        cases e
        have := hev x
        rw [hx] at this
        exact ⟨.inl rfl, extract_sound x k ho he h this⟩
      · cases e
    · cases e
  · -- len
    rename_i args ts ho
    split at e
    · rename_i x T hx hT
      split at e
      · rename_i i hi
        split at e
        · rename_i n hn
          cases e
          have h1 : args = #[x] := Array.toList_inj.1 hx
          have h2 : ts = #[T] := Array.toList_inj.1 hT
          subst h1; subst h2
          exact ⟨.inl rfl, cLen_sound T x ho (hE.tl _ _ hi).1 hn hs h (hev x)⟩
        · cases e
      · cases e
    · cases e
  · -- append
    rename_i args ts ho
    split at e
    · rename_i s x T T' hx hT
      cases hTT : Nat.beq T T'
      · rw [hTT] at e; cases e
      · rw [hTT] at e
        simp only [cond_true] at e
        obtain rfl := Nat.eq_of_beq_eq_true hTT
        have h1 : args = #[s, x] := Array.toList_inj.1 hx
        have h2 : ts = #[T, T] := Array.toList_inj.1 hT
        subst h1; subst h2
        split at e
        · rename_i i a c hi ha hc
          split at e
          · rename_i el hk
            split at e
            · rename_i j t hj ht
              split at e
              · rename_i cs e3
                split at e
                · rename_i b l e1 e2
                  cases e
                  obtain ⟨j', hj', hty⟩ := hE.ty _ _ ht
                  rw [hj] at hj'
                  cases hj'
                  exact ⟨.inr rfl, appendOpen_sound T el s x ho (hE.tl _ _ hi).1 hk hty (hE.tl _ _ hj).2.1 e1 e2 e3 hs.1 hs.2 h (AV.one_rel ha (hev s)) (AV.one_rel hc (hev x))⟩
                · cases e
              split at e
              · rename_i b l m e1 e2 e3
                cases e
                obtain ⟨j', hj', hty⟩ := hE.ty _ _ ht
                rw [hj] at hj'
                cases hj'
                exact ⟨.inr rfl, append_sound T el s x ho (hE.tl _ _ hi).1 hk hty (hE.tl _ _ hj).2.1 e1 e2 e3 hs.1 hs.2 h (AV.one_rel ha (hev s)) (AV.one_rel hc (hev x))⟩
              · cases e
            · cases e
          · cases e
        · cases e
    · cases e
  · -- max
    rename_i args ts ho
    split at e
    · rename_i x y hargs
      have h1 : args = #[x, y] := Array.toList_inj.1 hargs
      subst h1
      split at e
      · rename_i k a ly hx hy
        split at e
        · rename_i b hb
          cases e
          obtain ⟨k', hy'⟩ := lfInt_rel hb (AV.one_rel hy (hev y))
          have hx' : ρ x = .int k a := by
            have := (AV.one_rel hx (hev x)).1
            simpa using this
          refine ⟨.inl rfl, Runs.of_ok (v := .int k (max a b)) (w' := w) ?_ (Aft.still h (AV.rel_of (mkI_rel hs.1 hs.2)))⟩
          have : max a b = if b > a then b else a := max_if a b
          rw [this]
          simp only [execOp, ho, resolve, invoke, builtin, Builtin.max_, List.map_toArray, List.map_cons, List.map_nil, hx', hy', List.foldlM_cons, List.foldlM_nil, Builtin.max2, Sem.run_bind, Sem.run_pure, Result.andThen_ok]
        · cases e
      · cases e
    · cases e
  · -- min
    rename_i args ts ho
    split at e
    · rename_i x y hargs
      have h1 : args = #[x, y] := Array.toList_inj.1 hargs
      subst h1
      split at e
      · rename_i k a ly hx hy
        split at e
        · rename_i b hb
          cases e
          obtain ⟨k', hy'⟩ := lfInt_rel hb (AV.one_rel hy (hev y))
          have hx' : ρ x = .int k a := by
            have := (AV.one_rel hx (hev x)).1
            simpa using this
          refine ⟨.inl rfl, Runs.of_ok (v := .int k (min a b)) (w' := w) ?_ (Aft.still h (AV.rel_of (mkI_rel hs.1 hs.2)))⟩
          have : min a b = if b < a then b else a := min_if a b
          rw [this]
          simp only [execOp, ho, resolve, invoke, builtin, Builtin.min_, List.map_toArray, List.map_cons, List.map_nil, hx', hy', List.foldlM_cons, List.foldlM_nil, Builtin.min2, Sem.run_bind, Sem.run_pure, Result.andThen_ok]
        · cases e
      · cases e
    · cases e
  · -- a function made here
    rename_i f first captured ho
    split at e
    · rename_i bs hf hc
      cases e
      have h1 : first = #[] := Array.toList_inj.1 hf
      subst h1
      obtain ⟨gs, g1, g2, g3⟩ := capN_rel hev hc
      refine ⟨.inl rfl, Runs.of_ok (v := .func (.func f) #[] (captured.map ρ)) (w' := w) (by simp only [execOp, ho, Instr.makeFunc, Sem.run_bind, Sem.run_pure, Result.andThen_ok, Array.map_empty]) (Aft.still h (AV.rel_of ⟨gs, ?_, g2, g3⟩))⟩
      congr 1
      apply Array.toList_inj.1
      rw [Array.toList_map, g1]
    · cases e
  · -- a call
    rename_i g args ts ho
    split at e
    · rename_i f cs hc
      split at e
      · rename_i s hsp
        obtain ⟨fn, q1, q2, q3, q4⟩ := hE.sp f s hsp
        obtain ⟨vs, v1, v2⟩ := callee_rel hev hc
        obtain ⟨m1, m2⟩ := q4 d _ hp r e hs
        refine ⟨m1, ?_⟩
        unfold Runs
        rw [run_call ho v1 q1 q2 q3]
        exact m2 F G w _ h (relAs_append (relAs_map hev _) v2)
      · cases e
    · cases e
  · cases e
end Go.Proofs.Ytdpcbffmmndhcaa
