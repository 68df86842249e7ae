/- Sx, part J: one step of the executor, and that it is right. -/
import Derived.Test.YtdpcbffmmndhcaaSxI
namespace Go.Proofs.Ytdpcbffmmndhcaa
open Go.RowKit

inductive HEnt where
  | put (b : Nat) (ob : Ob)
  | scr (b d : Nat)
inductive SEnt where
  | put (t : Nat) (x : AV)
  | scr (d : Nat)
  | mark

def hget : List HEnt → Nat → Option Ob
  | [], _ => none
  | .put b ob :: l, k => bif Nat.beq k b then some ob else hget l k
  | .scr b d :: l, k => bif Nat.beq k b || Nat.beq k d then none else (hget l k).map (Ob.scrub d)
def look : List SEnt → Nat → AV
  | [], _ => .un
  | .put t x :: l, k => bif Nat.beq k t then x else look l k
  | .scr d :: l, k => (look l k).scrub d
  | .mark :: l, k => bif Nat.blt k SUS then .un else look l (k - SUS)

theorem beq_ne {a b : Nat} (h : a ≠ b) : Nat.beq a b = false := by
  cases h' : Nat.beq a b
  · rfl
  · exact absurd (Nat.eq_of_beq_eq_true h') h
theorem beq_self (a : Nat) : Nat.beq a a = true := Nat.beq_refl a

/-- the entries of a step laid on a heap -/
def happ : List HEnt → (Nat → Option Ob) → Nat → Option Ob
  | [], h => h
  | .put b ob :: l, h => upd (happ l h) b (some ob)
  | .scr b d :: l, h => scrH (happ l h) b d

theorem hget_app : ∀ (u l : List HEnt), hget (u ++ l) = happ u (hget l)
  | [], l => rfl
  | .put b ob :: u, l => by
    funext k
    show (bif Nat.beq k b then some ob else hget (u ++ l) k) = upd (happ u (hget l)) b (some ob) k
    rw [hget_app u l]
    by_cases h : k = b
    · subst h; rw [beq_self, upd_same]; rfl
    · rw [beq_ne h, upd_ne _ _ h]; rfl
  | .scr b d :: u, l => by
    funext k
    show (bif Nat.beq k b || Nat.beq k d then none else (hget (u ++ l) k).map (Ob.scrub d)) = scrH (happ u (hget l)) b d k
    rw [hget_app u l]
    unfold scrH
    by_cases h : k = b ∨ k = d
    · rw [if_pos h]
      rcases h with h | h
      · subst h; rw [beq_self]; rfl
      · subst h; rw [beq_self, Bool.or_true]; rfl
    · rw [if_neg h, beq_ne (fun e => h (.inl e)), beq_ne (fun e => h (.inr e))]
      rfl

def constAV : Value → AV
  | .agg cs => bif cs.toList.all (fun u => u.oneCell') then .v true (cs.toList.map lfOf) else .un
  | .tuple _ => .un
  | v => bif v.oneCell' then .v false [lfOf v] else .un
theorem constAV_rel (w : World) (G : Gh) (A : Nat → Prop) (v : Value) : (constAV v).rel w G A v := by
  unfold constAV
  split
  · rename_i cs
    cases h : cs.toList.all (fun u => u.oneCell')
    · trivial
    · exact ⟨cs.toList, lfOf_rels _ _ _ _ h, by simp [mkV], fun e => by cases e⟩
  · trivial
  · cases h : v.oneCell'
    · trivial
    · exact AV.rel_of (lfOf_rel w G A v h)

def sg (sl : Nat → AV) (t : Nat) : AV := bif Nat.blt t SUS then sl t else .un
theorem sg_lt {sl : Nat → AV} {t : Nat} (h : t < SUS) : sg sl t = sl t := by
  unfold sg; rw [show Nat.blt t SUS = true from Nat.ble_eq_true_of_le h]; rfl
theorem sg_ge {sl : Nat → AV} {t : Nat} (h : ¬ t < SUS) : sg sl t = .un := by
  unfold sg; rw [show Nat.blt t SUS = false from by cases e : Nat.blt t SUS; rfl; exact absurd (Nat.le_of_ble_eq_true e) h]; rfl
theorem vl_lt {F : Fr} {a : Act} {t : Nat} (h : t < SUS) : vl F a t = a.tmps.getD t undef := by
  unfold vl; rw [show Nat.blt t SUS = true from Nat.ble_eq_true_of_le h]; rfl
theorem vl_ge {F : Fr} {a : Act} {t : Nat} (h : ¬ t < SUS) : vl F a t = F.old t := by
  unfold vl; rw [show Nat.blt t SUS = false from by cases e : Nat.blt t SUS; rfl; exact absurd (Nat.le_of_ble_eq_true e) h]; rfl
theorem sg_eq {sl : Nat → AV} {t : Nat} {x : AV} (h : sg sl t = x) (hx : x ≠ .un) : sl t = x := by
  by_cases ht : t < SUS
  · rw [sg_lt ht] at h; exact h
  · rw [sg_ge ht] at h; exact absurd h.symm hx
theorem sg_rel {F : Fr} {w : World} {G : Gh} {A : Nat → Prop} {sl : Nat → AV} {a : Act} (h : ∀ t, (sl t).rel w G A (vl F a t)) (t : Nat) : (sg sl t).rel w G A (a.tmps.getD t undef) := by
  by_cases ht : t < SUS
  · rw [sg_lt ht, ← vl_lt (F := F) ht]; exact h t
  · rw [sg_ge ht]; trivial

def evA (sl : Nat → AV) : Operand → AV
  | .tmp t => sg sl t
  | .const v => constAV v
  | .global _ => .un
  | .func f => .v false [.fn f []]
theorem evA_rel {F : Fr} {w : World} {G : Gh} {A : Nat → Prop} {sl : Nat → AV} {a : Act} (h : ∀ t, (sl t).rel w G A (vl F a t)) (x : Operand) : (evA sl x).rel w G A (a.eval x) := by
  cases x with
  | tmp t => exact sg_rel h t
  | const v => exact constAV_rel w G A v
  | global g => trivial
  | func f => exact AV.rel_of ⟨[], rfl, rfl, fun i h => by cases h⟩

def relAs (w : World) (G : Gh) (A : Nat → Prop) : List AV → List Value → Prop
  | [], vs => vs = []
  | x :: xs, vs => ∃ v r, vs = v :: r ∧ x.rel w G A v ∧ relAs w G A xs r
theorem relAs_map {w : World} {G : Gh} {A : Nat → Prop} {ρ : Operand → Value} {ev : Operand → AV} (h : ∀ x, (ev x).rel w G A (ρ x)) : ∀ xs : List Operand, relAs w G A (xs.map ev) (xs.map ρ)
  | [] => rfl
  | x :: xs => ⟨_, _, rfl, h x, relAs_map h xs⟩
theorem relAs_append {w : World} {G : Gh} {A : Nat → Prop} : ∀ {xs ys : List AV} {vs us : List Value}, relAs w G A xs vs → relAs w G A ys us → relAs w G A (xs ++ ys) (vs ++ us)
  | [], ys, vs, us, h, k => by rw [show vs = _ from h]; exact k
  | x :: xs, ys, vs, us, h, k => by obtain ⟨v, r, rfl, h1, h2⟩ := h; exact ⟨v, r ++ us, rfl, h1, relAs_append h2 k⟩

/-- what a step tells: what must hold, the value, the heap's new entries, the names that are new -/
structure Res where
  side : Prop
  val : AV
  hu : List HEnt
  nw : List Nat

abbrev SpecF := Nat → List AV → (Nat → Option Ob) → Option Res

def SpecOk (P : Program) (f : FuncId) (sp : SpecF) : Prop :=
  ∀ d args hp r, sp d args hp = some r → r.side → (r.nw = [] ∨ r.nw = [d]) ∧ ∀ F G w vals, RepH F hp G w → relAs w G (Okay F hp G) args vals →
    Calls P f vals.toArray w fun e w' => ∃ v, e = .returned v ∧ Aft F hp G w (happ r.hu hp) r.val r.nw v w'

/-- what the executor knows of the program: types, which data they are, functions, structs of two numbers -/
structure Env where
  nb : Nat
  tl : TypeId → Option TI
  ty : TypeId → Option Ty
  sp : FuncId → Option SpecF
  eq : TypeId → Bool
  inl : FuncId → Option Func
  cl : Nat → Bool

def Eq2 (P : Program) (t : TypeId) : Prop := ∀ (a b c d : Int) (x y : Operand) (w : World),
  (do eqGuard .eql t x y (.agg #[.int .i64 a, .int .i64 b]) (.agg #[.int .i64 c, .int .i64 d]); binOp .eql t (.agg #[.int .i64 a, .int .i64 b]) (.agg #[.int .i64 c, .int .i64 d]) : Sem Value).run P w = .ok (.bool (decide (a = c) && decide (b = d))) w ∧
  (do eqGuard .neq t x y (.agg #[.int .i64 a, .int .i64 b]) (.agg #[.int .i64 c, .int .i64 d]); binOp .neq t (.agg #[.int .i64 a, .int .i64 b]) (.agg #[.int .i64 c, .int .i64 d]) : Sem Value).run P w = .ok (.bool (!(decide (a = c) && decide (b = d)))) w

structure Env.Ok (E : Env) (P : Program) : Prop where
  tl : ∀ t i, E.tl t = some i → i.ok P t ∧ (i.agg = false → i.size = 1) ∧ 0 < i.size
  ty : ∀ t y, E.ty t = some y → ∃ i, E.tl t = some i ∧ TyOk P t i y
  sp : ∀ f s, E.sp f = some s → ∃ fn, P.funcs[f]? = some fn ∧ fn.body.isSome = true ∧ (fn.name == "runtime.NumGoroutine") = false ∧ SpecOk P f s
  eq : ∀ t, E.eq t = true → Eq2 P t
  inl : ∀ f fn, E.inl f = some fn → P.funcs[f]? = some fn ∧ fn.body.isSome = true ∧ (fn.name == "runtime.NumGoroutine") = false

def res1 (sd : Prop) (x : Lf) : Res := ⟨sd, .v false [x], [], []⟩

def two (x : AV) : Option (Int × Int) :=
  match x with
  | .v true [.d (.int .i64) a, .d (.int .i64) b] => some (a, b)
  | _ => none

/-- the callee of a call, and what it holds besides -/
def callee (ev : Operand → AV) (x : Operand) : Option (FuncId × List AV) :=
  match (ev x).one with
  | some (.fn f c) => some (f, c.map fun b => .v false [.p b 0])
  | _ => none

def cOpt (ev : Operand → AV) : Option Operand → Option (Option Lf)
  | none => some none
  | some x => match (ev x).one with
    | some l => some (some l)
    | none => none

def okNil : Lf → Bool
  | .p _ _ => true
  | .dp _ _ => true
  | .pe _ _ _ _ => true
  | .px _ _ _ _ => true
  | .fn _ _ => true
  | _ => false

/-- the boxes that a function made here holds -/
def capN (ev : Operand → AV) : List Operand → Option (List Nat)
  | [] => some []
  | x :: xs => match (ev x).one, capN ev xs with
    | some (.p b 0), some bs => some (b :: bs)
    | _, _ => none
def stepA (E : Env) (o : Oper) (d : Nat) (ev : Operand → AV) (hp : Nat → Option Ob) : Option Res :=
  match o.op with
  | .move x => some ⟨True, ev x, [], []⟩
  | .assign x => some ⟨True, ev x, [], []⟩
  | .pick c x y => match (ev c).one with
    | some (.d .bool t) => some ⟨True, bif t then ev x else ev y, [], []⟩
    | _ => none
  | .nilCheck x => match (ev x).one with
    | some l => bif okNil l then some (res1 True l) else none
    | none => none
  | .fieldAddr s x f => match E.tl s, (ev x).one with
    | some i, some l => match i.kind with
      | .struct fs => match fs[f]? with
        | some (off, ft) => match E.tl ft, cField off l with
          | some _, some y => some (res1 True y)
          | _, _ => none
        | none => none
      | _ => none
    | _, _ => none
  | .load t x => match E.tl t, (ev x).one with
    | some i, some l => match cLoad i hp l with
      | some (sd, y) => some ⟨sd, y, [], []⟩
      | none => none
    | _, _ => none
  | .store t x y => match E.tl t, (ev x).one with
    | some i, some l => match cStore i hp (ev y) l with
      | some (sd, b, ob) => some ⟨sd, .un, [.put b ob], []⟩
      | none => none
    | _, _ => none
  | .alloc T => match E.tl T with
    | some i => some ⟨True, .v false [.p d 0], [.put d (.box T (i.zc.map lfOf)), .scr d d], [d]⟩
    | none => none
  | .box T x => match ev x with
    | .v _ ls => some ⟨True, .v false [.p d 0], [.put d (.box T (ls.map (Lf.scrub d))), .scr d d], [d]⟩
    | _ => none
  | .build T parts => match E.tl T with
    | some i => match i.kind with
      | .struct fs => bif fs.all (fun f => (E.tl f.2).isSome) then (match cFill (structPlace E.tl fs) (i.zc.map lfOf) (parts.toList.map fun p => (p.1, ev p.2)) with
        | some ls => some ⟨True, .v true ls, [], []⟩
        | none => none) else none
      | .array _ e => match E.tl e with
        | some j => (match cFill (fun q => some (q * j.size, j.size)) (i.zc.map lfOf) (parts.toList.map fun p => (p.1, ev p.2)) with
          | some ls => some ⟨True, .v true ls, [], []⟩
          | none => none)
        | none => none
      | _ => none
    | none => none
  | .buildSlice T n parts => match E.tl T with
    | some i => match i.kind with
      | .slice e => match E.tl e with
        | some j => bif Nat.ble (n * j.size) 1000000 then (match cFill (fun i => some (i * j.size, j.size)) (List.replicate n (j.zc.map lfOf)).flatten (parts.toList.map fun p => (p.1, ev p.2)) with
          | some ls => some ⟨True, .v false [.o d], [.put d (.arr e n (ls.map (Lf.scrub d))), .scr d d], [d]⟩
          | none => none) else none
        | none => none
      | _ => none
    | none => none
  | .makeSlice T x y => match E.tl T, (ev x).one, (ev y).one with
    | some i, some lx, some ly => match i.kind, lfInt lx, lfInt ly with
      | .slice e, some n, some m => match E.tl e, E.ty e with
        | some j, some t => some ⟨m = n ∧ 0 ≤ n ∧ n * j.bytes ≤ 140737488355328 ∧ n ≤ 1000000000000, .v false [.o d], [.put d (.row e t (List.replicate n.toNat t.dflt)), .scr d d], [d]⟩
        | _, _ => none
      | _, _, _ => none
    | _, _, _ => none
  | .binOp op t x y _ => match (ev x).one, (ev y).one with
    | some a, some b => match cBin op a b with
      | some (sd, c) => some (res1 sd c)
      | none => none
    | _, _ => bif E.eq t then (match op, two (ev x), two (ev y) with
      | .eql, some (a, b), some (c, e) => some (res1 True (mkB (decide (a = c) && decide (b = e))))
      | .neq, some (a, b), some (c, e) => some (res1 True (mkB (!(decide (a = c) && decide (b = e)))))
      | _, _, _ => none) else none
  | .unOp op _ x => match (ev x).one with
    | some a => match cUn op a with
      | some (sd, c) => some (res1 sd c)
      | none => none
    | none => none
  | .indexAddr T x y => match E.tl T, (ev x).one, (ev y).one with
    | some i, some a, some ix => (match i.kind with
      | .slice e => match E.tl e with
        | some j => (match a with
          | .d (.slice t) _ => bif Nat.beq t.size j.size then (match cIndexAddr false i j.size hp ix a with | some (sd, c) => some (res1 sd c) | none => none) else none
          | .o b => (match hp b with
            | some (.row _ t _) => bif Nat.beq t.size j.size then (match cIndexAddr false i j.size hp ix a with | some (sd, c) => some (res1 sd c) | none => none) else none
            | some (.rox _ t _ _ _) => bif Nat.beq t.size j.size then (match cIndexAddr (E.cl d) i j.size hp ix a with | some (sd, c) => some (res1 sd c) | none => none) else none
            | some (.arr _ _ _) => (match cIndexAddr false i j.size hp ix a with | some (sd, c) => some (res1 sd c) | none => none)
            | _ => none)
          | _ => none)
        | none => none
      | .array _ e => match E.tl e with
        | some j => (match a with
          | .p _ _ => (match cIndexAddr false i j.size hp ix a with | some (sd, c) => some (res1 sd c) | none => none)
          | .pe _ _ _ _ => (match cIndexAddr false i j.size hp ix a with | some (sd, c) => some (res1 sd c) | none => none)
          | .dp _ _ => (match cIndexAddr false i j.size hp ix a with | some (sd, c) => some (res1 sd c) | none => none)
          | .px _ _ _ _ => (match cIndexAddr false i j.size hp ix a with | some (sd, c) => some (res1 sd c) | none => none)
          | _ => none)
        | none => none
      | _ => none)
    | _, _, _ => none
  | .index T x y => match E.tl T, (ev x).one, (ev y).one with
    | some i, some (.d .str s), some ix => match i.kind, lfInt ix with
      | .str, some n => some (res1 (0 ≤ n ∧ n < s.size) (mkI .u8 (byteAt s n.toNat)))
      | _, _ => none
    | some i, none, some ix => match i.kind, ev x, lfInt ix with
      | .array m e, .v true ls, some n => match E.tl e with
        | some j => bif Nat.ble (n.toNat * j.size + j.size) ls.length then some ⟨0 ≤ n ∧ n < m, .v j.agg ((ls.drop (n.toNat * j.size)).take j.size), [], []⟩ else none
        | none => none
      | _, _, _ => none
    | _, _, _ => none
  | .slice T x lo hi none => match E.tl T, (ev x).one, cOpt ev lo, cOpt ev hi with
    | some i, some a, some llo, some lhi => (match a, i.kind with
      | .d (.slice t) _, .slice e => match E.tl e with
        | some j => bif Nat.beq j.size t.size then (match cSlice llo lhi a with | some (sd, c) => some (res1 sd c) | none => none) else none
        | none => none
      | .d .str _, .str => (match cSlice llo lhi a with | some (sd, c) => some (res1 sd c) | none => none)
      | _, _ => none)
    | _, _, _, _ => none
  | .field s x f => match E.tl s, ev x with
    | some i, .v true ls => match i.kind with
      | .struct fs => match fs[f]? with
        | some (off, ft) => match E.tl ft with
          | some j => bif Nat.ble (off + j.size) ls.length then some ⟨True, .v j.agg ((ls.drop off).take j.size), [], []⟩ else none
          | none => none
        | none => none
      | _ => none
    | _, _ => none
  | .extract x k => match ev x with
    | .tu es => match es[k]? with
      | some e => some ⟨True, .v e.1 e.2, [], []⟩
      | none => none
    | _ => none
  | .call { callee := .builtin .len, args := args, argTypes := ts } => match args.toList, ts.toList with
    | [x], [T] => match E.tl T with
      | some i => match cLen i hp (ev x) with
        | some n => some (res1 (n ≤ 9223372036854775807) (mkI .i64 n))
        | none => none
      | none => none
    | _, _ => none
  | .call { callee := .builtin .append, args := args, argTypes := ts } => match args.toList, ts.toList with
    | [s, x], [T, T'] => bif Nat.beq T T' then (match E.tl T, (ev s).one, (ev x).one with
      | some i, some a, some c => match i.kind with
        | .slice e => match E.tl e, E.ty e with
          | some j, some t => match openE hp t c with
            | some cs => (match ownOf hp t d a, rowE hp a e with
              | some (b, l), true => some ⟨(l.length + 1) * j.bytes ≤ 140737488355328 ∧ l.length + 1 ≤ 1000000000000, .v false [.o d], [.put d (.rox e t l (cs.map (Lf.scrub d)) []), .scr b d], [d]⟩
              | _, _ => none)
            | none => (match ownOf hp t d a, rowE hp a e, asList hp t c with
              | some (b, l), true, some m => some ⟨(l.length + m.length) * j.bytes ≤ 140737488355328 ∧ l.length + m.length ≤ 1000000000000, .v false [.o d], [.put d (.row e t (l ++ m)), .scr b d], [d]⟩
              | _, _, _ => none)
          | _, _ => none
        | _ => none
      | _, _, _ => none) else none
    | _, _ => none
  | .call { callee := .builtin .max, args := args, argTypes := _ } => match args.toList with
    | [x, y] => match (ev x).one, (ev y).one with
      | some (.d (.int k) a), some ly => (match lfInt ly with
        | some b => some (res1 (kmin k ≤ max a b ∧ max a b ≤ kmax k) (mkI k (max a b)))
        | none => none)
      | _, _ => none
    | _ => none
  | .call { callee := .builtin .min, args := args, argTypes := _ } => match args.toList with
    | [x, y] => match (ev x).one, (ev y).one with
      | some (.d (.int k) a), some ly => (match lfInt ly with
        | some b => some (res1 (kmin k ≤ min a b ∧ min a b ≤ kmax k) (mkI k (min a b)))
        | none => none)
      | _, _ => none
    | _ => none
  | .makeFunc (.func f) first captured => match first.toList, capN ev captured.toList with
    | [], some bs => some ⟨True, .v false [.fn f bs], [], []⟩
    | _, _ => none
  | .call { callee := .value g, args := args, argTypes := _ } => match callee ev g with
    | some (f, cs) => match E.sp f with
      | some s => s d (args.toList.map ev ++ cs) hp
      | none => none
    | none => none
  | _ => none
end Go.Proofs.Ytdpcbffmmndhcaa
