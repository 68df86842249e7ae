/- Sx, part E: stores, and what makes memory. -/
import Derived.Test.YtdpcbffmmndhcaaSxD
import Derived.Laws.CopyRow
namespace Go.Proofs.Ytdpcbffmmndhcaa
open Go.RowKit

theorem oneCell_cells {v : Value} (h : v.oneCell' = true) : v.cells = #[v] := by
  cases v <;> first | rfl | (simp [Value.oneCell'] at h)

theorem cells_mkV {agg : Bool} {vs : List Value} (h1 : agg = false → vs.length = 1) (h : ∀ u ∈ vs, u.oneCell' = true) : (mkV agg vs).cells.toList = vs := by
  cases agg with
  | true => simp [mkV, Value.cells]
  | false =>
    have := h1 rfl
    match vs, this with
    | [v], _ => simp [mkV, oneCell_cells (h v (by simp))]

theorem only_setRow {w : World} {g : Nat} {cs : Array Value} : Only (fun k => k = g) w (w.setRow g cs) :=
  ⟨rfl, rfl, rfl, by simp [World.setRow], fun k _ hn => by
    have : g ≠ k := fun e => hn e.symm
    simp [World.setRow, Array.getElem?_modify, this]⟩

theorem run_store1 {P : Program} {ρ : Operand → Value} {o : Oper} {w : World} (t : TypeId) (x y : Operand) (ho : o.op = .store t x y) {i : TI} (hi : i.ok P t) {g q : Nat} (hx : ρ x = .pointer (some ⟨g, q, none⟩))
    {vs : List Value} (hy : (ρ y).cells.toList = vs) (hl : vs.length = i.size) (h1 : ∀ u ∈ vs, u.oneCell' = true) {cur : Array Value} {T : TypeId} (hg : w.heap[g]? = some (.cells cur T (0, 0))) (hle : q + vs.length ≤ cur.size) :
    (execOp ρ o).run P w = .ok .skip (w.setRow g (cur.toList.take q ++ vs ++ cur.toList.drop (q + vs.length)).toArray) := by
  have hsz : (ρ y).cells.size = i.size := by rw [← Array.length_toList, hy, hl]
  have hst := run_storeCells_at (P := P) g q T vs 0 cur w hg (by omega) h1
  rw [Nat.add_zero] at hst
  simp only [execOp, ho, Instr.storeAt, Sem.run_bind, hx, Instr.sureAddr, Sem.run_pure, Result.andThen_ok, storeVar, run_size hi, hsz, ne_eq, not_true_eq_false, if_false, hy, hst]

def castD {u v : Ty} (h : u = v) (x : u.den) : v.den := h ▸ x
/-- a cell as data of a type -/
def lfTo (t : Ty) : Lf → Option t.den
  | .d u y => if h : u = t then some (castD h y) else none
  | .nl => match t with
    | .slice _ => some []
    | _ => none
  | _ => none
theorem lfTo_rd {w : World} {G : Gh} {A : Nat → Prop} {t : Ty} {l : Lf} {x : t.den} {v : Value} (e : lfTo t l = some x) (h : l.rel w G A v) : t.rd w A x [v] := by
  unfold lfTo at e
  split at e
  · split at e
    · rename_i hu
      subst hu
      cases e
      exact h
    · cases e
  · split at e
    · cases e
      obtain rfl := (show v = _ from h)
      exact ⟨none, 0, rfl, Nat.le_refl _, Nat.zero_le _, fun _ => rfl, fun i hi => by simp at hi⟩
    · cases e
  · cases e

/-- cells as data -/
def Ty.pack : (t : Ty) → List Lf → Option (t.den × List Lf)
  | .pair a b, ls => match a.pack ls with
    | some (x, r) => match b.pack r with
      | some (y, r') => some ((x, y), r')
      | none => none
    | none => none
  | .st a, ls => a.pack ls
  | .int k, l :: r => (lfTo (.int k) l).map (·, r)
  | .bool, l :: r => (lfTo .bool l).map (·, r)
  | .str, l :: r => (lfTo .str l).map (·, r)
  | .slice e, l :: r => (lfTo (.slice e) l).map (·, r)
  | _, [] => none
theorem pack_leaf {w : World} {G : Gh} {A : Nat → Prop} {t : Ty} {l : Lf} {r r' : List Lf} {x : t.den} {vs : List Value} (e : (lfTo t l).map (·, r) = some (x, r')) (h : relL w G A (l :: r) vs) :
    ∃ c q, vs = c ++ q ∧ t.rd w A x c ∧ relL w G A r' q := by
  obtain ⟨v, q, rfl, h1, h2⟩ := h
  rw [Option.map_eq_some_iff] at e
  obtain ⟨y, e1, e2⟩ := e
  cases e2
  exact ⟨[v], q, rfl, lfTo_rd e1 h1, h2⟩
theorem pack_rd {w : World} {G : Gh} {A : Nat → Prop} : ∀ (t : Ty) (ls : List Lf) (x : t.den) (r : List Lf) (vs : List Value), t.pack ls = some (x, r) → relL w G A ls vs → ∃ c q, vs = c ++ q ∧ t.rd w A x c ∧ relL w G A r q
  | .pair a b, ls, x, r, vs, e, h => by
    unfold Ty.pack at e
    split at e
    · rename_i x1 r1 e1
      split at e
      · rename_i y1 r2 e2
        cases e
        obtain ⟨c1, q1, rfl, k1, k2⟩ := pack_rd a ls x1 r1 vs e1 h
        obtain ⟨c2, q2, rfl, m1, m2⟩ := pack_rd b r1 y1 r q1 e2 k2
        exact ⟨c1 ++ c2, q2, by simp, ⟨c1, c2, rfl, k1, m1⟩, m2⟩
      · cases e
    · cases e
  | .st a, ls, x, r, vs, e, h => pack_rd a ls x r vs e h
  | .int k, l :: r', x, r, vs, e, h => pack_leaf e h
  | .bool, l :: r', x, r, vs, e, h => pack_leaf e h
  | .str, l :: r', x, r, vs, e, h => pack_leaf e h
  | .slice k, l :: r', x, r, vs, e, h => pack_leaf e h

/-- a part of data that is written -/
def Ty.putc : (t : Ty) → t.den → Nat → List Lf → Option t.den
  | .pair a b, x, off, ls =>
    bif Nat.beq off 0 && Nat.beq ls.length (a.size + b.size) then (match (Ty.pair a b).pack ls with | some (y, []) => some y | _ => none)
    else bif Nat.ble (off + ls.length) a.size then (a.putc x.1 off ls).map (·, x.2)
    else bif Nat.ble a.size off then (b.putc x.2 (off - a.size) ls).map (x.1, ·) else none
  | .st a, x, off, ls => a.putc x off ls
  | .int k, _, off, ls => bif Nat.beq off 0 then (match ls with | [l] => lfTo (.int k) l | _ => none) else none
  | .bool, _, off, ls => bif Nat.beq off 0 then (match ls with | [l] => lfTo .bool l | _ => none) else none
  | .str, _, off, ls => bif Nat.beq off 0 then (match ls with | [l] => lfTo .str l | _ => none) else none
  | .slice e, _, off, ls => bif Nat.beq off 0 then (match ls with | [l] => lfTo (.slice e) l | _ => none) else none

theorem putc_leaf {w : World} {G : Gh} {A : Nat → Prop} {t : Ty} {x' : t.den} {off : Nat} {ls : List Lf} {cs vs : List Value} (hs : cs.length = 1) (h : relL w G A ls vs)
    (e : (bif Nat.beq off 0 then (match ls with | [l] => lfTo t l | _ => none) else none) = some x') : t.rd w A x' (cs.take off ++ vs ++ cs.drop (off + vs.length)) ∧ off + vs.length ≤ cs.length := by
  cases h0 : Nat.beq off 0
  · rw [h0] at e; cases e
  · rw [h0] at e
    have := Nat.eq_of_beq_eq_true h0
    subst this
    simp only [cond_true] at e
    split at e
    · rename_i l
      obtain ⟨v, r, rfl, h1, h2⟩ := h
      obtain rfl := (show r = _ from h2)
      have := lfTo_rd e h1
      match cs, hs with
      | [c], _ => exact ⟨by simpa using this, by simp⟩
    · cases e
theorem putc_rd {w : World} {G : Gh} {A : Nat → Prop} : ∀ (t : Ty) (x : t.den) (off : Nat) (ls : List Lf) (x' : t.den) (cs vs : List Value), t.rd w A x cs → relL w G A ls vs → t.putc x off ls = some x' →
    t.rd w A x' (cs.take off ++ vs ++ cs.drop (off + vs.length)) ∧ off + vs.length ≤ cs.length
  | .pair a b, x, off, ls, x', cs, vs, h, hl, e => by
    obtain ⟨q1, q2, rfl, h1, h2⟩ := h
    have l1 := Ty.rd_len a _ _ h1
    have l2 := Ty.rd_len b _ _ h2
    have lv := relL_len hl
    unfold Ty.putc at e
    cases c1 : (Nat.beq off 0 && Nat.beq ls.length (a.size + b.size))
    · rw [c1] at e
      simp only [cond_false] at e
      cases c2 : Nat.ble (off + ls.length) a.size
      · rw [c2] at e
        simp only [cond_false] at e
        cases c3 : Nat.ble a.size off
        · rw [c3] at e; cases e
        · rw [c3] at e
          simp only [cond_true, Option.map_eq_some_iff] at e
          obtain ⟨y, e1, rfl⟩ := e
          obtain ⟨k1, k2⟩ := putc_rd b x.2 (off - a.size) ls y q2 vs h2 hl e1
          have hle := Nat.le_of_ble_eq_true c3
          refine ⟨⟨q1, _, ?_, h1, k1⟩, by rw [List.length_append]; omega⟩
          rw [List.take_append, List.take_of_length_le (by omega), List.drop_append, List.drop_of_length_le (by omega), l1]
          simp only [List.nil_append, List.append_assoc]
          congr 3
          congr 1
          omega
      · rw [c2] at e
        simp only [cond_true, Option.map_eq_some_iff] at e
        obtain ⟨y, e1, rfl⟩ := e
        obtain ⟨k1, k2⟩ := putc_rd a x.1 off ls y q1 vs h1 hl e1
        refine ⟨⟨_, q2, ?_, k1, h2⟩, by rw [List.length_append]; omega⟩
        rw [List.take_append_of_le_length (by omega), List.drop_append_of_le_length (by omega)]
        simp
    · rw [c1] at e
      simp only [cond_true] at e
      obtain ⟨d1, d2⟩ := Bool.and_eq_true_iff.1 c1
      obtain rfl := Nat.eq_of_beq_eq_true d1
      have d2 := Nat.eq_of_beq_eq_true d2
      split at e
      · rename_i y hp
        cases e
        obtain ⟨c, q, rfl, k1, k2⟩ := pack_rd (.pair a b) ls x' [] vs hp hl
        obtain rfl := (show q = _ from k2)
        have l3 := Ty.rd_len (.pair a b) x' c k1
        simp only [Ty.size] at l3
        refine ⟨?_, by simp only [List.length_append, List.length_nil]; omega⟩
        rw [List.take_zero, List.drop_of_length_le (by rw [List.length_append, List.append_nil]; omega)]
        simpa using k1
      · cases e
  | .st a, x, off, ls, x', cs, vs, h, hl, e => putc_rd a x off ls x' cs vs h hl e
  | .int k, x, off, ls, x', cs, vs, h, hl, e => putc_leaf (Ty.rd_len (.int k) x cs h) hl e
  | .bool, x, off, ls, x', cs, vs, h, hl, e => putc_leaf (Ty.rd_len .bool x cs h) hl e
  | .str, x, off, ls, x', cs, vs, h, hl, e => putc_leaf (Ty.rd_len .str x cs h) hl e
  | .slice k, x, off, ls, x', cs, vs, h, hl, e => putc_leaf (Ty.rd_len (.slice k) x cs h) hl e

/-- a store, in the state's words -/
def cStore (i : TI) (hp : Nat → Option Ob) (y : AV) : Lf → Option (Prop × Nat × Ob)
  | .p b o => match hp b, y with
    | some (.box T cs), .v _ ls => bif Nat.beq ls.length i.size && Nat.ble (o + i.size) cs.length then some (True, b, .box T (cs.take o ++ ls ++ cs.drop (o + i.size))) else none
    | _, _ => none
  | .pe b n s k => match hp b, y with
    | some (.row E t l), .v _ ls => bif Nat.beq ls.length i.size && Nat.beq s t.size then
        (match t.putc (l.getD n t.dflt) k ls with
          | some x => some (n < l.length, b, .row E t (l.set n x))
          | none => bif Nat.ble (k + i.size) t.size then some (n < l.length, b, .rox E t (l.take n) ((t.leaves (l.getD n t.dflt)).take k ++ ls ++ (t.leaves (l.getD n t.dflt)).drop (k + i.size)) (l.drop (n + 1))) else none) else none
    | some (.arr E m cs), .v _ ls => bif Nat.beq ls.length i.size && Nat.ble (n * s + k + i.size) cs.length then some (True, b, .arr E m (cs.take (n * s + k) ++ ls ++ cs.drop (n * s + k + i.size))) else none
    | _, _ => none
  | .px b n s k => match hp b, y with
    | some (.rox E t l1 cs l2), .v _ ls => bif Nat.beq ls.length i.size && (Nat.beq s t.size && Nat.ble (k + i.size) cs.length) then some (n = l1.length, b, .rox E t l1 (cs.take k ++ ls ++ cs.drop (k + i.size)) l2) else none
    | _, _ => none
  | _ => none

theorem rdL_set {w : World} {A : Nat → Prop} {t : Ty} : ∀ {l : List t.den} {vs : List Value} (n : Nat) (x' : t.den) (us : List Value) (k : Nat), rdL w A t l vs → n < l.length →
    (∀ c, t.rd w A (l.getD n t.dflt) c → t.rd w A x' (c.take k ++ us ++ c.drop (k + us.length)) ∧ k + us.length ≤ c.length) →
    rdL w A t (l.set n x') (vs.take (n * t.size + k) ++ us ++ vs.drop (n * t.size + k + us.length)) ∧ n * t.size + k + us.length ≤ vs.length
  | x :: xs, vs, 0, x', us, k, h, _, hc => by
    obtain ⟨c, r, rfl, h1, h2⟩ := h
    obtain ⟨k1, k2⟩ := hc c h1
    simp only [Nat.zero_mul, Nat.zero_add, List.set_cons_zero]
    refine ⟨⟨_, r, ?_, k1, h2⟩, by rw [List.length_append]; omega⟩
    rw [List.take_append_of_le_length (by omega), List.drop_append_of_le_length (by omega)]
    simp
  | x :: xs, vs, n + 1, x', us, k, h, hn, hc => by
    obtain ⟨c, r, rfl, h1, h2⟩ := h
    have hl := Ty.rd_len t x c h1
    obtain ⟨k1, k2⟩ := rdL_set n x' us k h2 (by simpa using hn) hc
    have e : (n + 1) * t.size = c.length + n * t.size := by rw [Nat.add_mul, hl]; omega
    simp only [List.set_cons_succ]
    refine ⟨⟨c, _, ?_, h1, k1⟩, by rw [List.length_append, e]; omega⟩
    rw [e, List.take_append, List.take_of_length_le (by omega), List.drop_append, List.drop_of_length_le (by omega)]
    simp only [List.nil_append, List.append_assoc]
    congr 2
    · congr 1
      omega
    · congr 2
      omega

theorem splice_len {cs us : List Value} {o : Nat} (h : o + us.length ≤ cs.length) : (cs.take o ++ us ++ cs.drop (o + us.length)).length = cs.length := by
  rw [List.length_append, List.length_append, List.length_take, List.length_drop]; omega
theorem take_splice {cs us : List Value} {q N : Nat} (h : q + us.length ≤ N) (hc : q + us.length ≤ cs.length) : (cs.take q ++ us ++ cs.drop (q + us.length)).take N = (cs.take N).take q ++ us ++ (cs.take N).drop (q + us.length) := by
  have h0 : (cs.take q ++ us).length = q + us.length := by rw [List.length_append, List.length_take]; omega
  rw [List.take_append, List.take_of_length_le (by omega), h0, List.take_take, Nat.min_eq_left (by omega), List.drop_take]
theorem relL_splice {w : World} {G : Gh} {A : Nat → Prop} {xs ys : List Lf} {vs us : List Value} (h : relL w G A xs vs) (k : relL w G A ys us) (o : Nat) : relL w G A (xs.take o ++ ys ++ xs.drop (o + ys.length)) (vs.take o ++ us ++ vs.drop (o + us.length)) := by
  rw [relL_len k]
  exact relL_append (relL_append (relL_take o h) k) (relL_drop _ h)

/-- a row's cells, one element's written over -/
theorem owns_splice {w w' : World} {E : TypeId} {size n : Nat} {v : Value} {vs us : List Value} {q g : Nat} (h : w.ownsRow 0 E size v n vs) (hg : v.ownBlock = some g) (hq : q + us.length ≤ vs.length)
    (hw : ∀ cur, w.heap[g]? = some (.cells cur E (0, 0)) → w'.heap[g]? = some (.cells (cur.toList.take q ++ us ++ cur.toList.drop (q + us.length)).toArray E (0, 0))) :
    w'.ownsRow 0 E size v n (vs.take q ++ us ++ vs.drop (q + us.length)) := by
  obtain ⟨r1, r2⟩ := h
  refine ⟨by rw [splice_len hq]; exact r1, ?_⟩
  rcases r2 with ⟨r2, r3⟩ | ⟨g', cap, cur, r3, r4, r5, r6, r7, r8, r9⟩
  · rw [r2] at hg; cases hg
  · have hg2 : v.ownBlock = some g' := by rw [r3]; rfl
    obtain rfl : g = g' := by rw [hg] at hg2; cases hg2; rfl
    have hcl : n * size ≤ cap * size := Nat.mul_le_mul_right _ r6
    have hcur : vs.length ≤ cur.size := by omega
    have hcur2 : cur.toList.length = cur.size := Array.length_toList
    refine .inr ⟨g, cap, _, r3, Nat.zero_le _, hw cur r5, r6, r7, ?_, ?_⟩
    · rw [List.size_toArray, splice_len (by omega), Array.length_toList, r8]
    · rw [List.toList_toArray, take_splice (by rw [← r1]; exact hq) (by omega), r9]
theorem owns_block {w : World} {E : TypeId} {size n : Nat} {v : Value} {vs : List Value} {g : Nat} (h : w.ownsRow 0 E size v n vs) (hg : v.ownBlock = some g) : ∃ cur, w.heap[g]? = some (.cells cur E (0, 0)) ∧ vs.length ≤ cur.size := by
  obtain ⟨r1, r2⟩ := h
  rcases r2 with ⟨r2, r3⟩ | ⟨g', cap, cur, r3, r4, r5, r6, r7, r8, r9⟩
  · rw [r2] at hg; cases hg
  · have hg2 : v.ownBlock = some g' := by rw [r3]; rfl
    obtain rfl : g = g' := by rw [hg] at hg2; cases hg2; rfl
    exact ⟨cur, r5, by rw [r8, r1]; exact Nat.mul_le_mul_right _ r6⟩
theorem rdL_split {w : World} {A : Nat → Prop} {t : Ty} : ∀ {l : List t.den} {vs : List Value} (n : Nat), rdL w A t l vs → n < l.length → ∃ v1 c v2, vs = v1 ++ (c ++ v2) ∧ rdL w A t (l.take n) v1 ∧ t.rd w A (l.getD n t.dflt) c ∧ rdL w A t (l.drop (n + 1)) v2
  | x :: xs, vs, 0, h, _ => by
    obtain ⟨c, r, rfl, h1, h2⟩ := h
    exact ⟨[], c, r, rfl, rfl, h1, h2⟩
  | x :: xs, vs, n + 1, h, hn => by
    obtain ⟨c, r, rfl, h1, h2⟩ := h
    obtain ⟨v1, c', v2, rfl, k1, k2, k3⟩ := rdL_split n h2 (by simpa using hn)
    exact ⟨c ++ v1, c', v2, by simp, ⟨c, v1, rfl, h1, k1⟩, k2, k3⟩
theorem splice_mid {v1 c v2 us : List Value} {k : Nat} (hk : k + us.length ≤ c.length) :
    (v1 ++ (c ++ v2)).take (v1.length + k) ++ us ++ (v1 ++ (c ++ v2)).drop (v1.length + k + us.length) = v1 ++ ((c.take k ++ us ++ c.drop (k + us.length)) ++ v2) := by
  rw [List.take_append, List.take_of_length_le (by omega), Nat.add_sub_cancel_left, List.take_append_of_le_length (by omega), List.drop_append, List.drop_of_length_le (by omega), show v1.length + k + us.length - v1.length = k + us.length by omega, List.drop_append_of_le_length hk]
  simp

theorem cStore_sound {P : Program} {F : Fr} {hp : Nat → Option Ob} {G : Gh} {ρ : Operand → Value} {o : Oper} {w : World} (t : TypeId) (x z : Operand) (ho : o.op = .store t x z) {i : TI} (hi : i.ok P t) (h1 : i.agg = false → i.size = 1)
    {l : Lf} {y : AV} {sd : Prop} {b : Nat} {ob : Ob} (e : cStore i hp y l = some (sd, b, ob)) (hsd : sd) (h : RepH F hp G w) (hx : l.rel w G (Okay F hp G) (ρ x)) (hy : y.rel w G (Okay F hp G) (ρ z)) :
    Runs P ρ o w (Aft F hp G w (upd hp b (some ob)) .un []) := by
  have fin : ∀ (c : Nat) (o1 o2 : Ob) (w' : World), hp c = some o1 → Only (G.f c) w w' → (Ext (Foot hp G) (Okay F hp G) G w (Okay F hp G) G w' [] → Sat w' G (Okay F hp G) c o2) → (execOp ρ o).run P w = .ok .skip w' → Runs P ρ o w (Aft F hp G w (upd hp c (some o2)) .un []) := by
    intro c o1 o2 w' k1 k2 k3 k4
    obtain ⟨m1, m2⟩ := write_step h c o1 o2 k1 k2 k3
    exact Runs.of_skip k4 ⟨G, m1, m2, trivial⟩
  unfold cStore at e
  split at e
  · rename_i b' off
    obtain ⟨g, hg, hv⟩ := hx
    split at e
    · rename_i T cs agg ls hb
      cases hq : (Nat.beq ls.length i.size && Nat.ble (off + i.size) cs.length)
      · rw [hq] at e; cases e
      · rw [hq] at e
        cases e
        obtain ⟨q1, q2⟩ := Bool.and_eq_true_iff.1 hq
        have q1 := Nat.eq_of_beq_eq_true q1
        have q2 := Nat.le_of_ble_eq_true q2
        obtain ⟨us, u1, u2, u3⟩ := hy
        have ul := relL_len u1
        obtain ⟨g', vs, hg', hblk, hrl, hf⟩ := h.sat _ _ hb
        obtain rfl : g = g' := by unfold boxAt at hg hg'; rw [hg] at hg'; cases hg'; rfl
        have vl := relL_len hrl
        have vl' : vs.size = cs.length := by rw [← Array.length_toList]; exact vl
        have hr := run_store1 t x z ho hi hv (vs := us) (by rw [u2]; exact cells_mkV u3 (relL_one u1)) (by rw [ul, q1]) (relL_one u1) hblk (by rw [ul, q1, vl']; exact q2)
        refine fin _ _ _ _ hb ?_ ?_ hr
        · exact ⟨only_setRow.os, only_setRow.tape, only_setRow.output, only_setRow.size, fun k hk hn => only_setRow.block k hk (fun ek => hn ((hf k).2 ek))⟩
        · intro hx'
          refine ⟨g, _, hg', setRow_heap w g vs _ T _ hblk, ?_, hf⟩
          have := relL_splice (hx'.ls (by simp) hrl) (hx'.ls (by simp) u1) off
          rw [← q1]
          simpa using this
    · cases e
  · rename_i b' n s k
    obtain ⟨g, hg, hv⟩ := hx
    split at e
    · rename_i E t' l' agg ls hb
      cases hq : (Nat.beq ls.length i.size && Nat.beq s t'.size)
      · rw [hq] at e; cases e
      · rw [hq] at e
        simp only [cond_true] at e
        obtain ⟨q1, q2⟩ := Bool.and_eq_true_iff.1 hq
        have q1 := Nat.eq_of_beq_eq_true q1
        have q2 := Nat.eq_of_beq_eq_true q2
        subst q2
        split at e
        · rename_i x' hp'
          cases e
          obtain ⟨us, u1, u2, u3⟩ := hy
          have ul := relL_len u1
          obtain ⟨vs, hr1, hr2, hf⟩ := h.sat _ _ hb
          obtain ⟨m1, m2⟩ := rdL_set n x' us k hr1 hsd (fun c hc => putc_rd t' _ k ls x' c us hc u1 hp')
          obtain ⟨r1, r2⟩ := hr2
          rcases r2 with ⟨r2, r3⟩ | ⟨g', cap, cur, r3, r4, r5, r6, r7, r8, r9⟩
          · rw [r2] at hg; cases hg
          · have hg2 : (G.r b).ownBlock = some g' := by rw [r3]; rfl
            obtain rfl : g = g' := by rw [hg] at hg2; cases hg2; rfl
            have hcl : l'.length * t'.size ≤ cap * t'.size := Nat.mul_le_mul_right _ r6
            have hr := run_store1 t x z ho hi hv (vs := us) (by rw [u2]; exact cells_mkV u3 (relL_one u1)) (by rw [ul, q1]) (relL_one u1) r5 (by rw [r8]; omega)
            refine fin _ _ _ _ hb ?_ ?_ hr
            · exact ⟨only_setRow.os, only_setRow.tape, only_setRow.output, only_setRow.size, fun k' hk hn => only_setRow.block k' hk (fun ek => hn ((hf k').2 (by rw [hg, ek])))⟩
            · intro hx'
              refine ⟨_, rdL_mono hx'.only.size (fun c hc hl => ⟨hx'.keepA c hl hc, hx'.only.block c hl (hx'.apart c hc)⟩) m1, ⟨?_, .inr ⟨g, cap, _, by rw [r3, List.length_set], Nat.zero_le _, setRow_heap w g cur _ E _ r5, by rw [List.length_set]; exact r6, r7, ?_, ?_⟩⟩, hf⟩
              · rw [splice_len m2, List.length_set]; exact r1
              · rw [List.size_toArray, splice_len (by simp only [Array.length_toList, r8, List.size_toArray]; omega), Array.length_toList, r8]
              · rw [List.length_set, List.toList_toArray, take_splice (by rw [← r1]; exact m2) (by simp only [Array.length_toList, r8, List.size_toArray]; omega), r9]
        · cases hle : Nat.ble (k + i.size) t'.size
          · rw [hle] at e; cases e
          · rw [hle] at e
            cases e
            have hle := Nat.le_of_ble_eq_true hle
            obtain ⟨us, u1, u2, u3⟩ := hy
            have ul : us.length = ls.length := relL_len u1
            obtain ⟨vs, hr1, hr2, hf⟩ := h.sat _ _ hb
            obtain ⟨v1, c, v2, rfl, k1, k2, k3⟩ := rdL_split n hr1 hsd
            have lc := Ty.rd_len t' _ _ k2
            have lv1 := rdL_len k1
            rw [List.length_take, Nat.min_eq_left (Nat.le_of_lt hsd)] at lv1
            obtain ⟨cur, r5, r6⟩ := owns_block hr2 hg
            have hsz : n * t'.size + k + us.length ≤ (v1 ++ (c ++ v2)).length := by simp only [List.length_append]; omega
            have hr := run_store1 t x z ho hi hv (vs := us) (by rw [u2]; exact cells_mkV u3 (relL_one u1)) (by rw [ul, q1]) (relL_one u1) r5 (by omega)
            refine fin _ _ _ _ hb ?_ ?_ hr
            · exact ⟨only_setRow.os, only_setRow.tape, only_setRow.output, only_setRow.size, fun k' hk hn => only_setRow.block k' hk (fun ek => hn ((hf k').2 (by rw [hg, ek])))⟩
            · intro hx'
              have mono : ∀ {l : List t'.den} {vs : List Value}, rdL w (Okay F hp G) t' l vs → rdL _ (Okay F hp G) t' l vs := fun hh => rdL_mono hx'.only.size (fun c hc hl => ⟨hx'.keepA c hl hc, hx'.only.block c hl (hx'.apart c hc)⟩) hh
              have lvs := leaves_len t' (l'.getD n t'.dflt)
              refine ⟨v1, c.take k ++ us ++ c.drop (k + us.length), v2, mono k1, ?_, by rw [splice_len (by omega), lc], mono k3, ?_, hf⟩
              · have := relL_splice (hx'.ls (by intro b hb; simp) (leaves_rel t' _ c k2)) (hx'.ls (by simp) u1) k
                rw [q1] at this
                exact this
              · have key := owns_splice (w' := w.setRow g (cur.toList.take (n * t'.size + k) ++ us ++ cur.toList.drop (n * t'.size + k + us.length)).toArray) hr2 hg hsz (fun cur' hc' => by rw [r5] at hc'; cases hc'; exact setRow_heap w g cur _ E _ r5)
                rw [← lv1, splice_mid (by omega)] at key
                have el : (l'.take n).length + 1 + (l'.drop (n + 1)).length = l'.length := by rw [List.length_take, List.length_drop]; omega
                rw [el]
                rw [lv1] at key
                exact key
    · rename_i E m cs agg ls hb
      cases hq : (Nat.beq ls.length i.size && Nat.ble (n * s + k + i.size) cs.length)
      · rw [hq] at e; cases e
      · rw [hq] at e
        cases e
        obtain ⟨q1, q2⟩ := Bool.and_eq_true_iff.1 hq
        have q1 := Nat.eq_of_beq_eq_true q1
        have q2 := Nat.le_of_ble_eq_true q2
        obtain ⟨us, u1, u2, u3⟩ := hy
        have ul := relL_len u1
        obtain ⟨g', vs, hg', hm, hblk, hrl, hf⟩ := h.sat _ _ hb
        have hg2 : (G.r b).ownBlock = some g' := by rw [hg']; rfl
        obtain rfl : g = g' := by rw [hg] at hg2; cases hg2; rfl
        have vl := relL_len hrl
        have vl' : vs.size = cs.length := by rw [← Array.length_toList]; exact vl
        have hr := run_store1 t x z ho hi hv (vs := us) (by rw [u2]; exact cells_mkV u3 (relL_one u1)) (by rw [ul, q1]) (relL_one u1) hblk (by rw [ul, q1, vl']; exact q2)
        refine fin _ _ _ _ hb ?_ ?_ hr
        · exact ⟨only_setRow.os, only_setRow.tape, only_setRow.output, only_setRow.size, fun k' hk hn => only_setRow.block k' hk (fun ek => hn ((hf k').2 ek))⟩
        · intro hx'
          refine ⟨g, _, hg', hm, setRow_heap w g vs _ E _ hblk, ?_, hf⟩
          have := relL_splice (hx'.ls (by simp) hrl) (hx'.ls (by simp) u1) (n * s + k)
          rw [← q1]
          simpa using this
    · cases e
  · rename_i b' n s k
    obtain ⟨g, hg, hv⟩ := hx
    split at e
    · rename_i E t' l1 cs l2 agg ls hb
      cases hq : (Nat.beq ls.length i.size && (Nat.beq s t'.size && Nat.ble (k + i.size) cs.length))
      · rw [hq] at e; cases e
      · rw [hq] at e
        cases e
        obtain ⟨q1, q2⟩ := Bool.and_eq_true_iff.1 hq
        obtain ⟨q2, q3⟩ := Bool.and_eq_true_iff.1 q2
        have q1 := Nat.eq_of_beq_eq_true q1
        obtain rfl := Nat.eq_of_beq_eq_true q2
        have q3 := Nat.le_of_ble_eq_true q3
        obtain rfl : n = l1.length := hsd
        obtain ⟨us, u1, u2, u3⟩ := hy
        have ul : us.length = ls.length := relL_len u1
        obtain ⟨v1, c, v2, m1, m2, m3, m4, m5, hf⟩ := h.sat _ _ hb
        have lc := relL_len m2
        have lv1 := rdL_len m1
        obtain ⟨cur, r5, r6⟩ := owns_block m5 hg
        have hsz : l1.length * t'.size + k + us.length ≤ (v1 ++ (c ++ v2)).length := by simp only [List.length_append]; omega
        have hr := run_store1 t x z ho hi hv (vs := us) (by rw [u2]; exact cells_mkV u3 (relL_one u1)) (by rw [ul, q1]) (relL_one u1) r5 (by omega)
        refine fin _ _ _ _ hb ?_ ?_ hr
        · exact ⟨only_setRow.os, only_setRow.tape, only_setRow.output, only_setRow.size, fun k' hk hn => only_setRow.block k' hk (fun ek => hn ((hf k').2 (by rw [hg, ek])))⟩
        · intro hx'
          have mono : ∀ {l : List t'.den} {vs : List Value}, rdL w (Okay F hp G) t' l vs → rdL _ (Okay F hp G) t' l vs := fun hh => rdL_mono hx'.only.size (fun c hc hl => ⟨hx'.keepA c hl hc, hx'.only.block c hl (hx'.apart c hc)⟩) hh
          refine ⟨v1, c.take k ++ us ++ c.drop (k + us.length), v2, mono m1, ?_, by rw [splice_len (by omega), m3], mono m4, ?_, hf⟩
          · have := relL_splice (hx'.ls (by simp) m2) (hx'.ls (by simp) u1) k
            rw [q1] at this
            exact this
          · have key := owns_splice (w' := w.setRow g (cur.toList.take (l1.length * t'.size + k) ++ us ++ cur.toList.drop (l1.length * t'.size + k + us.length)).toArray) m5 hg hsz (fun cur' hc' => by rw [r5] at hc'; cases hc'; exact setRow_heap w g cur _ E _ r5)
            rw [← lv1, splice_mid (by omega)] at key
            rw [lv1] at key
            exact key
    · cases e
  · cases e
end Go.Proofs.Ytdpcbffmmndhcaa
