/- Sx, the framework, joined: SxJ, SxK, SxL, SxN, SxO, SxQ. Written by fw.py. -/
import Derived.Test.YtgdlbpihkodeoaaFwA
namespace Go.Proofs.Ytgdlbpihkodeoaa
open Go.RowKit

/-! part SxJ -/
inductive HEnt where
  | put (b : Nat) (ob : Ob)
  | scr (b d : Nat)
inductive SEnt where
  | put (t : Nat) (x : AV)
  | scr (d : Nat)
  | mark

def hget : List HEnt → Nat → Option Ob
  | [], _ => none
  | .put b ob :: l, k => bif Nat.beq k b then some ob else hget l k
  | .scr b d :: l, k => bif Nat.beq k b || Nat.beq k d then none else (hget l k).map (Ob.scrub d)
def look : List SEnt → Nat → AV
  | [], _ => .un
  | .put t x :: l, k => bif Nat.beq k t then x else look l k
  | .scr d :: l, k => (look l k).scrub d
  | .mark :: l, k => bif Nat.blt k SUS then .un else look l (k - SUS)

theorem beq_ne {a b : Nat} (h : a ≠ b) : Nat.beq a b = false := by
  cases h' : Nat.beq a b
  · rfl
  · exact absurd (Nat.eq_of_beq_eq_true h') h
theorem beq_self (a : Nat) : Nat.beq a a = true := Nat.beq_refl a

/-- the entries of a step laid on a heap -/
def happ : List HEnt → (Nat → Option Ob) → Nat → Option Ob
  | [], h => h
  | .put b ob :: l, h => upd (happ l h) b (some ob)
  | .scr b d :: l, h => scrH (happ l h) b d

theorem hget_app : ∀ (u l : List HEnt), hget (u ++ l) = happ u (hget l)
  | [], l => rfl
  | .put b ob :: u, l => by
    funext k
    show (bif Nat.beq k b then some ob else hget (u ++ l) k) = upd (happ u (hget l)) b (some ob) k
    rw [hget_app u l]
    by_cases h : k = b
    · subst h; rw [beq_self, upd_same]; rfl
    · rw [beq_ne h, upd_ne _ _ h]; rfl
  | .scr b d :: u, l => by
    funext k
    show (bif Nat.beq k b || Nat.beq k d then none else (hget (u ++ l) k).map (Ob.scrub d)) = scrH (happ u (hget l)) b d k
    rw [hget_app u l]
    unfold scrH
    by_cases h : k = b ∨ k = d
    · rw [if_pos h]
      rcases h with h | h
      · subst h; rw [beq_self]; rfl
      · subst h; rw [beq_self, Bool.or_true]; rfl
    · rw [if_neg h, beq_ne (fun e => h (.inl e)), beq_ne (fun e => h (.inr e))]
      rfl

def constAV : Value → AV
  | .agg cs => bif cs.toList.all (fun u => u.oneCell') then .v true (cs.toList.map lfOf) else .un
  | .tuple _ => .un
  | v => bif v.oneCell' then .v false [lfOf v] else .un
theorem constAV_rel (w : World) (G : Gh) (A : Nat → Prop) (v : Value) : (constAV v).rel w G A v := by
  unfold constAV
  split
  · rename_i cs
    cases h : cs.toList.all (fun u => u.oneCell')
    · trivial
    · exact ⟨cs.toList, lfOf_rels _ _ _ _ h, by simp [mkV], fun e => by cases e⟩
  · trivial
  · cases h : v.oneCell'
    · trivial
    · exact AV.rel_of (lfOf_rel w G A v h)

def sg (sl : Nat → AV) (t : Nat) : AV := bif Nat.blt t SUS then sl t else .un
theorem sg_lt {sl : Nat → AV} {t : Nat} (h : t < SUS) : sg sl t = sl t := by
  unfold sg; rw [show Nat.blt t SUS = true from Nat.ble_eq_true_of_le h]; rfl
theorem sg_ge {sl : Nat → AV} {t : Nat} (h : ¬ t < SUS) : sg sl t = .un := by
  unfold sg; rw [show Nat.blt t SUS = false from by cases e : Nat.blt t SUS; rfl; exact absurd (Nat.le_of_ble_eq_true e) h]; rfl
theorem vl_lt {F : Fr} {a : Act} {t : Nat} (h : t < SUS) : vl F a t = a.tmps.getD t undef := by
  unfold vl; rw [show Nat.blt t SUS = true from Nat.ble_eq_true_of_le h]; rfl
theorem vl_ge {F : Fr} {a : Act} {t : Nat} (h : ¬ t < SUS) : vl F a t = F.old t := by
  unfold vl; rw [show Nat.blt t SUS = false from by cases e : Nat.blt t SUS; rfl; exact absurd (Nat.le_of_ble_eq_true e) h]; rfl
theorem sg_eq {sl : Nat → AV} {t : Nat} {x : AV} (h : sg sl t = x) (hx : x ≠ .un) : sl t = x := by
  by_cases ht : t < SUS
  · rw [sg_lt ht] at h; exact h
  · rw [sg_ge ht] at h; exact absurd h.symm hx
theorem sg_rel {F : Fr} {w : World} {G : Gh} {A : Nat → Prop} {sl : Nat → AV} {a : Act} (h : ∀ t, (sl t).rel w G A (vl F a t)) (t : Nat) : (sg sl t).rel w G A (a.tmps.getD t undef) := by
  by_cases ht : t < SUS
  · rw [sg_lt ht, ← vl_lt (F := F) ht]; exact h t
  · rw [sg_ge ht]; trivial

def evA (sl : Nat → AV) : Operand → AV
  | .tmp t => sg sl t
  | .const v => constAV v
  | .global _ => .un
  | .func f => .v false [.fn f []]
theorem evA_rel {F : Fr} {w : World} {G : Gh} {A : Nat → Prop} {sl : Nat → AV} {a : Act} (h : ∀ t, (sl t).rel w G A (vl F a t)) (x : Operand) : (evA sl x).rel w G A (a.eval x) := by
  cases x with
  | tmp t => exact sg_rel h t
  | const v => exact constAV_rel w G A v
  | global g => trivial
  | func f => exact AV.rel_of ⟨[], rfl, rfl, fun i h => by cases h⟩

def relAs (w : World) (G : Gh) (A : Nat → Prop) : List AV → List Value → Prop
  | [], vs => vs = []
  | x :: xs, vs => ∃ v r, vs = v :: r ∧ x.rel w G A v ∧ relAs w G A xs r
theorem relAs_map {w : World} {G : Gh} {A : Nat → Prop} {ρ : Operand → Value} {ev : Operand → AV} (h : ∀ x, (ev x).rel w G A (ρ x)) : ∀ xs : List Operand, relAs w G A (xs.map ev) (xs.map ρ)
  | [] => rfl
  | x :: xs => ⟨_, _, rfl, h x, relAs_map h xs⟩
theorem relAs_append {w : World} {G : Gh} {A : Nat → Prop} : ∀ {xs ys : List AV} {vs us : List Value}, relAs w G A xs vs → relAs w G A ys us → relAs w G A (xs ++ ys) (vs ++ us)
  | [], ys, vs, us, h, k => by rw [show vs = _ from h]; exact k
  | x :: xs, ys, vs, us, h, k => by obtain ⟨v, r, rfl, h1, h2⟩ := h; exact ⟨v, r ++ us, rfl, h1, relAs_append h2 k⟩

/-- what a step tells: what must hold, the value, the heap's new entries, the names that are new -/
structure Res where
  side : Prop
  val : AV
  hu : List HEnt
  nw : List Nat

abbrev SpecF := Nat → List AV → (Nat → Option Ob) → Option Res

def SpecOk (P : Program) (f : FuncId) (sp : SpecF) : Prop :=
  ∀ d args hp r, sp d args hp = some r → r.side → (r.nw = [] ∨ r.nw = [d]) ∧ ∀ F G w vals, RepH F hp G w → relAs w G (Okay F hp G) args vals →
    Calls P f vals.toArray w fun e w' => ∃ v, e = .returned v ∧ Aft F hp G w (happ r.hu hp) r.val r.nw v w'

/-- what the executor knows of the program: types, which data they are, functions, structs of two numbers -/
structure Env where
  nb : Nat
  tl : TypeId → Option TI
  ty : TypeId → Option Ty
  sp : FuncId → Option SpecF
  eq : TypeId → Bool
  inl : FuncId → Option Func
  cl : Nat → Bool

def Eq2 (P : Program) (t : TypeId) : Prop := ∀ (a b c d : Int) (x y : Operand) (w : World),
  (do eqGuard .eql t x y (.agg #[.int .i64 a, .int .i64 b]) (.agg #[.int .i64 c, .int .i64 d]); binOp .eql t (.agg #[.int .i64 a, .int .i64 b]) (.agg #[.int .i64 c, .int .i64 d]) : Sem Value).run P w = .ok (.bool (decide (a = c) && decide (b = d))) w ∧
  (do eqGuard .neq t x y (.agg #[.int .i64 a, .int .i64 b]) (.agg #[.int .i64 c, .int .i64 d]); binOp .neq t (.agg #[.int .i64 a, .int .i64 b]) (.agg #[.int .i64 c, .int .i64 d]) : Sem Value).run P w = .ok (.bool (!(decide (a = c) && decide (b = d)))) w

structure Env.Ok (E : Env) (P : Program) : Prop where
  tl : ∀ t i, E.tl t = some i → i.ok P t ∧ (i.agg = false → i.size = 1) ∧ 0 < i.size
  ty : ∀ t y, E.ty t = some y → ∃ i, E.tl t = some i ∧ TyOk P t i y
  sp : ∀ f s, E.sp f = some s → ∃ fn, P.funcs[f]? = some fn ∧ fn.body.isSome = true ∧ (fn.name == "runtime.NumGoroutine") = false ∧ SpecOk P f s
  eq : ∀ t, E.eq t = true → Eq2 P t
  inl : ∀ f fn, E.inl f = some fn → P.funcs[f]? = some fn ∧ fn.body.isSome = true ∧ (fn.name == "runtime.NumGoroutine") = false

def res1 (sd : Prop) (x : Lf) : Res := ⟨sd, .v false [x], [], []⟩

def two (x : AV) : Option (Int × Int) :=
  match x with
  | .v true [.d (.int .i64) a, .d (.int .i64) b] => some (a, b)
  | _ => none

/-- the callee of a call, and what it holds besides -/
def callee (ev : Operand → AV) (x : Operand) : Option (FuncId × List AV) :=
  match (ev x).one with
  | some (.fn f c) => some (f, c.map fun b => .v false [.p b 0])
  | _ => none

def cOpt (ev : Operand → AV) : Option Operand → Option (Option Lf)
  | none => some none
  | some x => match (ev x).one with
    | some l => some (some l)
    | none => none

def okNil : Lf → Bool
  | .p _ _ => true
  | .dp _ _ => true
  | .pe _ _ _ _ => true
  | .px _ _ _ _ => true
  | .fn _ _ => true
  | _ => false

/-- the boxes that a function made here holds -/
def capN (ev : Operand → AV) : List Operand → Option (List Nat)
  | [] => some []
  | x :: xs => match (ev x).one, capN ev xs with
    | some (.p b 0), some bs => some (b :: bs)
    | _, _ => none
def stepA (E : Env) (o : Oper) (d : Nat) (ev : Operand → AV) (hp : Nat → Option Ob) : Option Res :=
  match o.op with
  | .move x => some ⟨True, ev x, [], []⟩
  | .assign x => some ⟨True, ev x, [], []⟩
  | .pick c x y => match (ev c).one with
    | some (.d .bool t) => some ⟨True, bif t then ev x else ev y, [], []⟩
    | _ => none
  | .nilCheck x => match (ev x).one with
    | some l => bif okNil l then some (res1 True l) else none
    | none => none
  | .fieldAddr s x f => match E.tl s, (ev x).one with
    | some i, some l => match i.kind with
      | .struct fs => match fs[f]? with
        | some (off, ft) => match E.tl ft, cField off l with
          | some _, some y => some (res1 True y)
          | _, _ => none
        | none => none
      | _ => none
    | _, _ => none
  | .load t x => match E.tl t, (ev x).one with
    | some i, some l => match cLoad i hp l with
      | some (sd, y) => some ⟨sd, y, [], []⟩
      | none => none
    | _, _ => none
  | .store t x y => match E.tl t, (ev x).one with
    | some i, some l => match cStore i hp (ev y) l with
      | some (sd, b, ob) => some ⟨sd, .un, [.put b ob], []⟩
      | none => none
    | _, _ => none
  | .alloc T => match E.tl T with
    | some i => some ⟨True, .v false [.p d 0], [.put d (.box T (i.zc.map lfOf)), .scr d d], [d]⟩
    | none => none
  | .box T x => match ev x with
    | .v _ ls => some ⟨True, .v false [.p d 0], [.put d (.box T (ls.map (Lf.scrub d))), .scr d d], [d]⟩
    | _ => none
  | .build T parts => match E.tl T with
    | some i => match i.kind with
      | .struct fs => bif fs.all (fun f => (E.tl f.2).isSome) then (match cFill (structPlace E.tl fs) (i.zc.map lfOf) (parts.toList.map fun p => (p.1, ev p.2)) with
        | some ls => some ⟨True, .v true ls, [], []⟩
        | none => none) else none
      | .array _ e => match E.tl e with
        | some j => (match cFill (fun q => some (q * j.size, j.size)) (i.zc.map lfOf) (parts.toList.map fun p => (p.1, ev p.2)) with
          | some ls => some ⟨True, .v true ls, [], []⟩
          | none => none)
        | none => none
      | _ => none
    | none => none
  | .buildSlice T n parts => match E.tl T with
    | some i => match i.kind with
      | .slice e => match E.tl e with
        | some j => bif Nat.ble (n * j.size) 1000000 then (match cFill (fun i => some (i * j.size, j.size)) (List.replicate n (j.zc.map lfOf)).flatten (parts.toList.map fun p => (p.1, ev p.2)) with
          | some ls => bif E.cl d then (match E.ty e with
            | some t => (match packN t n ls with
              | some l => some ⟨True, .v false [.d (.slice t) l], [], []⟩
              | none => none)
            | none => none) else some ⟨True, .v false [.o d], [.put d (.arr e n (ls.map (Lf.scrub d))), .scr d d], [d]⟩
          | none => none) else none
        | none => none
      | _ => none
    | none => none
  | .makeSlice T x y => match E.tl T, (ev x).one, (ev y).one with
    | some i, some lx, some ly => match i.kind, lfInt lx, lfInt ly with
      | .slice e, some n, some m => match E.tl e, E.ty e with
        | some j, some t => some ⟨m = n ∧ 0 ≤ n ∧ n * j.bytes ≤ 140737488355328 ∧ n ≤ 1000000000000, .v false [.o d], [.put d (.row e t (List.replicate n.toNat t.dflt)), .scr d d], [d]⟩
        | _, _ => none
      | _, _, _ => none
    | _, _, _ => none
  | .binOp op t x y _ => match (ev x).one, (ev y).one with
    | some a, some b => match cBin op a b with
      | some (sd, c) => some (res1 sd c)
      | none => match E.tl t with
        | some i => match cBool i.kind op a b with
          | some c => some (res1 True c)
          | none => none
        | none => none
    | _, _ => bif E.eq t then (match op, two (ev x), two (ev y) with
      | .eql, some (a, b), some (c, e) => some (res1 True (mkB (decide (a = c) && decide (b = e))))
      | .neq, some (a, b), some (c, e) => some (res1 True (mkB (!(decide (a = c) && decide (b = e)))))
      | _, _, _ => none) else none
  | .unOp op _ x => match (ev x).one with
    | some a => match cUn op a with
      | some (sd, c) => some (res1 sd c)
      | none => none
    | none => none
  | .indexAddr T x y => match E.tl T, (ev x).one, (ev y).one with
    | some i, some a, some ix => (match i.kind with
      | .slice e => match E.tl e with
        | some j => (match a with
          | .d (.slice t) _ => bif Nat.beq t.size j.size then (match cIndexAddr false i j.size hp ix a with | some (sd, c) => some (res1 sd c) | none => none) else none
          | .o b => (match hp b with
            | some (.row _ t _) => bif Nat.beq t.size j.size then (match cIndexAddr false i j.size hp ix a with | some (sd, c) => some (res1 sd c) | none => none) else none
            | some (.rox _ t _ _ _) => bif Nat.beq t.size j.size then (match cIndexAddr (E.cl d) i j.size hp ix a with | some (sd, c) => some (res1 sd c) | none => none) else none
            | some (.arr _ _ _) => (match cIndexAddr false i j.size hp ix a with | some (sd, c) => some (res1 sd c) | none => none)
            | _ => none)
          | _ => none)
        | none => none
      | .array _ e => match E.tl e with
        | some j => (match a with
          | .p _ _ => (match cIndexAddr false i j.size hp ix a with | some (sd, c) => some (res1 sd c) | none => none)
          | .pe _ _ _ _ => (match cIndexAddr false i j.size hp ix a with | some (sd, c) => some (res1 sd c) | none => none)
          | .dp _ _ => (match cIndexAddr false i j.size hp ix a with | some (sd, c) => some (res1 sd c) | none => none)
          | .px _ _ _ _ => (match cIndexAddr false i j.size hp ix a with | some (sd, c) => some (res1 sd c) | none => none)
          | _ => none)
        | none => none
      | _ => none)
    | _, _, _ => none
  | .index T x y => match E.tl T, (ev x).one, (ev y).one with
    | some i, some (.d .str s), some ix => match i.kind, lfInt ix with
      | .str, some n => some (res1 (0 ≤ n ∧ n < s.size) (mkI .u8 (byteAt s n.toNat)))
      | _, _ => none
    | some i, none, some ix => match i.kind, ev x, lfInt ix with
      | .array m e, .v true ls, some n => match E.tl e with
        | some j => bif Nat.ble (n.toNat * j.size + j.size) ls.length then some ⟨0 ≤ n ∧ n < m, .v j.agg ((ls.drop (n.toNat * j.size)).take j.size), [], []⟩ else none
        | none => none
      | _, _, _ => none
    | _, _, _ => none
  | .slice T x lo hi none => match E.tl T, (ev x).one, cOpt ev lo, cOpt ev hi with
    | some i, some a, some llo, some lhi => (match a, i.kind with
      | .d (.slice t) _, .slice e => match E.tl e with
        | some j => bif Nat.beq j.size t.size then (match cSlice llo lhi a with | some (sd, c) => some (res1 sd c) | none => none) else none
        | none => none
      | .d .str _, .str => (match cSlice llo lhi a with | some (sd, c) => some (res1 sd c) | none => none)
      | .o b, .slice e => match E.tl e with
        | some j => (match hp b with
          | some (.row _ t _) => bif Nat.beq j.size t.size then (match cView hp llo lhi (.o b) with | some (sd, c) => some (res1 sd c) | none => none) else none
          | _ => none)
        | none => none
      | _, _ => none)
    | _, _, _, _ => none
  | .field s x f => match E.tl s, ev x with
    | some i, .v true ls => match i.kind with
      | .struct fs => match fs[f]? with
        | some (off, ft) => match E.tl ft with
          | some j => bif Nat.ble (off + j.size) ls.length then some ⟨True, .v j.agg ((ls.drop off).take j.size), [], []⟩ else none
          | none => none
        | none => none
      | _ => none
    | _, _ => none
  | .extract x k => match ev x with
    | .tu es => match es[k]? with
      | some e => some ⟨True, .v e.1 e.2, [], []⟩
      | none => none
    | _ => none
  | .call { callee := .builtin .len, args := args, argTypes := ts } => match args.toList, ts.toList with
    | [x], [T] => match E.tl T with
      | some i => match cLen i hp (ev x) with
        | some n => some (res1 (n ≤ 9223372036854775807) (mkI .i64 n))
        | none => none
      | none => none
    | _, _ => none
  | .call { callee := .builtin .append, args := args, argTypes := ts } => match args.toList, ts.toList with
    | [s, x], [T, T'] => bif Nat.beq T T' then (match E.tl T, (ev s).one, (ev x).one with
      | some i, some a, some c => match i.kind with
        | .slice e => match E.tl e, E.ty e with
          | some j, some t => match openE hp t c with
            | some cs => (match ownOf hp t d a, rowE hp a e with
              | some (b, l), true => some ⟨(l.length + 1) * j.bytes ≤ 140737488355328 ∧ l.length + 1 ≤ 1000000000000, .v false [.o d], [.put d (.rox e t l (cs.map (Lf.scrub d)) []), .scr b d], [d]⟩
              | _, _ => none)
            | none => (match ownOf hp t d a, rowE hp a e, asList hp t c with
              | some (b, l), true, some m => some ⟨(l.length + m.length) * j.bytes ≤ 140737488355328 ∧ l.length + m.length ≤ 1000000000000, .v false [.o d], [.put d (.row e t (l ++ m)), .scr b d], [d]⟩
              | _, _, _ => none)
          | _, _ => none
        | _ => none
      | _, _, _ => none) else none
    | _, _ => none
  | .call { callee := .builtin .max, args := args, argTypes := _ } => match args.toList with
    | [x, y] => match (ev x).one, (ev y).one with
      | some (.d (.int k) a), some ly => (match lfInt ly with
        | some b => some (res1 (kmin k ≤ max a b ∧ max a b ≤ kmax k) (mkI k (max a b)))
        | none => none)
      | _, _ => none
    | _ => none
  | .call { callee := .builtin .min, args := args, argTypes := _ } => match args.toList with
    | [x, y] => match (ev x).one, (ev y).one with
      | some (.d (.int k) a), some ly => (match lfInt ly with
        | some b => some (res1 (kmin k ≤ min a b ∧ min a b ≤ kmax k) (mkI k (min a b)))
        | none => none)
      | _, _ => none
    | _ => none
  | .convert src dst x => match E.tl src, E.tl dst, (ev x).one with
    | some i, some j, some (.d .str s) => (match i.kind, j.kind with
      | .str, .slice e => match E.tl e with
        | some k => (match k.kind with
          | .int .u8 => some ⟨True, .v false [.d (.slice (.int .u8)) (s.data.toList.map fun c => (c.toNat : Int))], [], []⟩
          | _ => none)
        | none => none
      | _, _ => none)
    | _, _, _ => none
  | .makeFunc (.func f) first captured => match first.toList, capN ev captured.toList with
    | [], some bs => some ⟨True, .v false [.fn f bs], [], []⟩
    | _, _ => none
  | .call { callee := .value g, args := args, argTypes := _ } => match callee ev g with
    | some (f, cs) => match E.sp f with
      | some s => s d (args.toList.map ev ++ cs) hp
      | none => none
    | none => none
  | _ => none

/-! part SxK -/
theorem run_callFunc {P : Program} {w : World} {f : FuncId} {fn : Func} (args : Array Value) (hf : P.funcs[f]? = some fn) (hb : fn.body.isSome = true) (hn : (fn.name == "runtime.NumGoroutine") = false) : (callFunc f args).run P w = .ok (.enter f args) w := by
  have hb' : fn.body.isNone = false := by cases h : fn.body <;> simp [h] at hb ⊢
  simp only [callFunc, Sem.run_bind, run_program, Result.andThen_ok, hf, hn, Bool.false_eq_true, if_false, hb', Sem.run_pure]

theorem run_call {P : Program} {ρ : Operand → Value} {o : Oper} {w : World} {g : Operand} {args : Array Operand} {ts : Array TypeId} (ho : o.op = .call { callee := .value g, args := args, argTypes := ts }) {f : FuncId} {cs : List Value} {fn : Func}
    (hg : ρ g = .func (.func f) #[] cs.toArray) (hf : P.funcs[f]? = some fn) (hb : fn.body.isSome = true) (hn : (fn.name == "runtime.NumGoroutine") = false) :
    (execOp ρ o).run P w = .ok (.enter f (args.toList.map ρ ++ cs).toArray) w := by
  have : args.map ρ ++ cs.toArray = (args.toList.map ρ ++ cs).toArray := by
    apply Array.toList_inj.1
    simp
  simp only [execOp, ho, resolve, hg, Deferred.ofValue, Sem.run_bind, Sem.run_pure, Result.andThen_ok, invoke, Array.empty_append, this, run_callFunc _ hf hb hn]

theorem callee_rel {w : World} {G : Gh} {A : Nat → Prop} {ρ : Operand → Value} {ev : Operand → AV} (h : ∀ x, (ev x).rel w G A (ρ x)) {g : Operand} {f : FuncId} {cs : List AV} (e : callee ev g = some (f, cs)) :
    ∃ vs, ρ g = .func (.func f) #[] vs.toArray ∧ relAs w G A cs vs := by
  unfold callee at e
  split at e
  · rename_i f' c hone
    cases e
    obtain ⟨gs, h1, h2, h3⟩ := AV.one_rel hone (h g)
    refine ⟨_, h1, ?_⟩
    clear h1 hone
    induction c generalizing gs with
    | nil =>
      have : gs = [] := List.eq_nil_of_length_eq_zero h2
      subst this
      rfl
    | cons b c ih =>
      match gs, h2 with
      | k :: gs, h2 =>
        refine ⟨_, _, rfl, AV.rel_of ⟨k, h3 0 (by simp) (by simp), rfl⟩, ih gs (by simpa using h2) (fun i hi hi' => ?_)⟩
        have := h3 (i + 1) (by simpa using hi) (by simpa using hi')
        simpa using this
  · cases e

theorem cOpt_rel {w : World} {G : Gh} {A : Nat → Prop} {ρ : Operand → Value} {ev : Operand → AV} (h : ∀ x, (ev x).rel w G A (ρ x)) {x : Option Operand} {l : Option Lf} (e : cOpt ev x = some l) : optRel w G A l (x.map ρ) := by
  unfold cOpt at e
  split at e
  · cases e; rfl
  · rename_i y
    split at e
    · rename_i l' hone
      cases e
      exact ⟨ρ y, rfl, AV.one_rel hone (h y)⟩
    · cases e

theorem two_rel {w : World} {G : Gh} {A : Nat → Prop} {x : AV} {a b : Int} {v : Value} (e : two x = some (a, b)) (h : x.rel w G A v) : v = .agg #[.int .i64 a, .int .i64 b] := by
  unfold two at e
  split at e
  · rename_i a' b'
    cases e
    obtain ⟨vs, ⟨v1, r, rfl, h1, v2, r2, rfl, h2, h3⟩, rfl, _⟩ := h
    obtain rfl := (show r2 = _ from h3)
    have e1 : v1 = .int .i64 a := by simpa using h1.1
    have e2 : v2 = .int .i64 b := by simpa using h2.1
    rw [e1, e2]
    rfl
  · cases e

theorem Aft.step {F : Fr} {hp : Nat → Option Ob} {G : Gh} {w : World} {x : AV} {v : Value} {w' : World} {u : List HEnt} {hp' : Nat → Option Ob} {nw : List Nat} (h : Aft F hp G w hp' x nw v w') (e : happ u hp = hp') : Aft F hp G w (happ u hp) x nw v w' := by
  rw [e]; exact h

theorem Runs.mono {P : Program} {ρ : Operand → Value} {o : Oper} {w : World} {R R' : Value → World → Prop} (h : Runs P ρ o w R) (hr : ∀ v w', R v w' → R' v w') : Runs P ρ o w R' := by
  unfold Runs at *
  split at h
  · exact hr _ _ h
  · exact hr _ _ h
  · refine Calls.mono h ?_
    rintro e w' ⟨v, h1, h2⟩
    exact ⟨v, h1, hr _ _ h2⟩
  · exact h

theorem max_if (a b : Int) : max a b = if b > a then b else a := by
  by_cases q : b > a
  · rw [if_pos q]; omega
  · rw [if_neg q]; omega
theorem min_if (a b : Int) : min a b = if b < a then b else a := by
  by_cases q : b < a
  · rw [if_pos q]; omega
  · rw [if_neg q]; omega
theorem capN_rel {w : World} {G : Gh} {A : Nat → Prop} {ρ : Operand → Value} {ev : Operand → AV} (h : ∀ x, (ev x).rel w G A (ρ x)) : ∀ {xs : List Operand} {bs : List Nat}, capN ev xs = some bs →
    ∃ gs : List Nat, xs.map ρ = (gs.map fun g => Value.pointer (some ⟨g, 0, none⟩)) ∧ gs.length = bs.length ∧ ∀ i (h : i < bs.length) (h' : i < gs.length), boxAt G bs[i] gs[i]
  | [], bs, e => by cases e; exact ⟨[], rfl, rfl, fun i h => by simp at h⟩
  | x :: xs, bs, e => by
    unfold capN at e
    split at e
    · rename_i b bs' hx hxs
      cases e
      obtain ⟨gs, g1, g2, g3⟩ := capN_rel h hxs
      obtain ⟨g, k1, k2⟩ := AV.one_rel hx (h x)
      refine ⟨g :: gs, by rw [List.map_cons, List.map_cons, g1, k2], by simp [g2], fun i hi hi' => ?_⟩
      cases i with
      | zero => exact k1
      | succ i => exact g3 i (by simpa using hi) (by simpa using hi')
    · cases e

theorem stepA_sound {P : Program} {E : Env} (hE : E.Ok P) {o : Oper} {d : Nat} {ev : Operand → AV} {hp : Nat → Option Ob} {r : Res} (e : stepA E o d ev hp = some r) (hs : r.side) {F : Fr} {G : Gh} {w : World} {ρ : Operand → Value}
    (h : RepH F hp G w) (hev : ∀ x, (ev x).rel w G (Okay F hp G) (ρ x)) : (r.nw = [] ∨ r.nw = [d]) ∧ Runs P ρ o w (Aft F hp G w (happ r.hu hp) r.val r.nw) := by
  unfold stepA at e
  split at e
  · -- move
    rename_i x ho
    cases e
    exact ⟨.inl rfl, Runs.of_ok (v := ρ x) (w' := w) (by simp only [execOp, ho]; rfl) (Aft.still h (hev x))⟩
  · rename_i x ho
    cases e
    exact ⟨.inl rfl, Runs.of_ok (v := ρ x) (w' := w) (by simp only [execOp, ho]; rfl) (Aft.still h (hev x))⟩
  · -- pick
    rename_i c x y ho
    split at e
    · rename_i t hone
      cases e
      have hc : ρ c = .bool t := by
        have := AV.one_rel hone (hev c)
        simpa using (show [ρ c] = [.bool t] from this)
      refine ⟨.inl rfl, Runs.of_ok (v := bif t then ρ x else ρ y) (w' := w) ?_ (Aft.still h ?_)⟩
      · simp only [execOp, ho, hc, asBool, Sem.run_bind, Sem.run_pure, Result.andThen_ok]
        cases t <;> rfl
      · cases t
        · exact hev y
        · exact hev x
    · cases e
  · -- nilCheck
    rename_i x ho
    split at e
    · rename_i l hone
      cases hk : okNil l
      · rw [hk] at e; cases e
      · rw [hk] at e
        cases e
        refine ⟨.inl rfl, nilCheck_sound x ho (by cases l <;> first | rfl | cases hk) h (AV.one_rel hone (hev x))⟩
    · cases e
  · -- fieldAddr
    rename_i s x f ho
    split at e
    · rename_i i l hi hone
      split at e
      · rename_i fs hk
        split at e
        · rename_i off ft hf
          split at e
          · rename_i j y hj hy
            cases e
            obtain ⟨g, q, hv, hr⟩ := cField_rel hy (AV.one_rel hone (hev x))
            have hjk := hE.tl _ _ hj
            exact ⟨.inl rfl, Runs.of_ok (run_fieldAddr s x f ho (hE.tl _ _ hi).1 hk hf hjk.1 (by have := hjk.2.2; omega) hv) (Aft.still h (AV.rel_of hr))⟩
          · cases e
        · cases e
      · cases e
    · cases e
  · -- load
    rename_i t x ho
    split at e
    · rename_i i l hi hone
      split at e
      · rename_i sd y hc
        cases e
        exact ⟨.inl rfl, cLoad_sound t x ho (hE.tl _ _ hi).1 (hE.tl _ _ hi).2.1 hc hs h (AV.one_rel hone (hev x))⟩
      · cases e
    · cases e
  · -- store
    rename_i t x y ho
    split at e
    · rename_i i l hi hone
      split at e
      · rename_i sd b ob hc
        cases e
        exact ⟨.inl rfl, cStore_sound t x y ho (hE.tl _ _ hi).1 (hE.tl _ _ hi).2.1 hc hs h (AV.one_rel hone (hev x)) (hev y)⟩
      · cases e
    · cases e
  · -- alloc
    rename_i T ho
    split at e
    · rename_i i hi
      cases e
      exact ⟨.inr rfl, alloc_sound T ho (hE.tl _ _ hi).1 (hE.tl _ _ hi).2.1 d h⟩
    · cases e
  · -- box
    rename_i T x ho
    split at e
    · rename_i agg ls hx
      cases e
      have := hev x
      rw [hx] at this
      exact ⟨.inr rfl, box_sound T x ho d h this⟩
    · cases e
  · -- build
    rename_i T parts ho
    split at e
    · rename_i i hi
      split at e
      · rename_i fs hk
        cases hall : fs.all (fun f => (E.tl f.2).isSome)
        · rw [hall] at e; cases e
        · rw [hall] at e
          simp only [cond_true] at e
          split at e
          · rename_i ls hc
            cases e
            exact ⟨.inl rfl, build_sound (fun t i hh => (hE.tl t i hh).1) T parts ho (hE.tl _ _ hi).1 (hE.tl _ _ hi).2.1 hk hall hev hc h⟩
          · cases e
      · rename_i m el hk
        split at e
        · rename_i j hj
          split at e
          · rename_i ls hc
            cases e
            exact ⟨.inl rfl, buildArr_sound T parts ho (hE.tl _ _ hi).1 (hE.tl _ _ hi).2.1 hk (hE.tl _ _ hj).1 hev hc h⟩
          · cases e
        · cases e
      · cases e
    · cases e
  · -- buildSlice
    rename_i T n parts ho
    split at e
    · rename_i i hi
      split at e
      · rename_i el hk
        split at e
        · rename_i j hj
          cases hle : Nat.ble (n * j.size) 1000000
          · rw [hle] at e; cases e
          · rw [hle] at e
            simp only [cond_true] at e
            split at e
            · rename_i ls hc
              cases hcl : E.cl d
              case true =>
                rw [hcl] at e
                simp only [cond_true] at e
                split at e
                · rename_i t ht
                  split at e
                  · rename_i l hl
                    cases e
                    obtain ⟨j', hj', hty⟩ := hE.ty _ _ ht
                    rw [hj] at hj'
                    cases hj'
                    exact ⟨.inl rfl, buildSlice_frz T el n parts ho (hE.tl _ _ hi).1 hk hty (hE.tl _ _ hj).2.1 (hE.tl _ _ hj).2.2 (Nat.le_of_ble_eq_true hle) hev hc hl h⟩
                  · cases e
                · cases e
              rw [hcl] at e
              simp only [cond_false] at e
              cases e
              exact ⟨.inr rfl, buildSlice_sound T el n parts ho (hE.tl _ _ hi).1 hk (hE.tl _ _ hj).1 (hE.tl _ _ hj).2.1 (hE.tl _ _ hj).2.2 (Nat.le_of_ble_eq_true hle) hev d hc h⟩
            · cases e
        · cases e
      · cases e
    · cases e
  · -- makeSlice
    rename_i T x y ho
    split at e
    · rename_i i lx ly hi hx hy
      split at e
      · rename_i el n m hk hn hm
        split at e
        · rename_i j t hj ht
          cases e
          obtain ⟨hmn, h0, h1, h2⟩ := hs
          subst hmn
          obtain ⟨k1, v1⟩ := lfInt_rel hn (AV.one_rel hx (hev x))
          obtain ⟨k2, v2⟩ := lfInt_rel hm (AV.one_rel hy (hev y))
          obtain ⟨j', hj', hty⟩ := hE.ty _ _ ht
          rw [hj] at hj'
          cases hj'
          exact ⟨.inr rfl, make_sound T el x y ho (hE.tl _ _ hi).1 hk hty (hE.tl _ _ hj).2.1 v1 v2 h0 h1 h2 d h⟩
        · cases e
      · cases e
    · cases e
  · -- binOp
    rename_i op t x y u ho
    split at e
    · rename_i a b ha hb
      split at e
      · rename_i sd c hc
        cases e
        exact ⟨.inl rfl, cBin_sound op t u x y ho hc hs h (AV.one_rel ha (hev x)) (AV.one_rel hb (hev y))⟩
      · split at e
        · rename_i i hi
          split at e
          · rename_i c hc
            cases e
            exact ⟨.inl rfl, cBool_sound op t u x y ho (hE.tl _ _ hi).1 hc h (AV.one_rel ha (hev x)) (AV.one_rel hb (hev y))⟩
          · cases e
        · cases e
    · cases heq : E.eq t
      · rw [heq] at e; cases e
      · rw [heq] at e
        simp only [cond_true] at e
        have h2 := hE.eq t heq
        split at e
        · rename_i a b c d' h3 h4
          cases e
          have q1 := two_rel h3 (hev x)
          have q2 := two_rel h4 (hev y)
          have := (h2 a b c d' x y w).1
          refine ⟨.inl rfl, Runs.of_ok (v := .bool (decide (a = c) && decide (b = d'))) ?_ (Aft.still h (AV.rel_of mkB_rel))⟩
          simp only [execOp, ho, q1, q2, Sem.run_bind, Sem.run_pure]
          rw [Sem.run_bind] at this
          rw [this]
          rfl
        · rename_i a b c d' h3 h4
          cases e
          have q1 := two_rel h3 (hev x)
          have q2 := two_rel h4 (hev y)
          have := (h2 a b c d' x y w).2
          refine ⟨.inl rfl, Runs.of_ok (v := .bool (!(decide (a = c) && decide (b = d')))) ?_ (Aft.still h (AV.rel_of mkB_rel))⟩
          simp only [execOp, ho, q1, q2, Sem.run_bind, Sem.run_pure]
          rw [Sem.run_bind] at this
          rw [this]
          rfl
        · cases e
  · -- unOp
    rename_i op t x ho
    split at e
    · rename_i a ha
      split at e
      · rename_i sd c hc
        cases e
        exact ⟨.inl rfl, cUn_sound op t x ho hc hs h (AV.one_rel ha (hev x))⟩
      · cases e
    · cases e
  · -- indexAddr
    rename_i T x y ho
    split at e
    · rename_i i a ix hi ha hix
      split at e
      · rename_i el hk
        split at e
        · rename_i j hj
          have hjk := hE.tl _ _ hj
          split at e
          · rename_i t l
            cases hts : Nat.beq t.size j.size
            · rw [hts] at e; cases e
            · rw [hts] at e
              simp only [cond_true] at e
              split at e
              · rename_i sd c hc
                cases e
                refine ⟨.inl rfl, cIndexAddr_sound T el x y ho (hE.tl _ _ hi).1 hjk.1 (.inl hk) hc hs ⟨fun t' l' e' => ?_, fun b e' => (by cases e')⟩ h (AV.one_rel ha (hev x)) (AV.one_rel hix (hev y))⟩
                cases e'
                exact ⟨hk, Nat.eq_of_beq_eq_true hts⟩
              · cases e
          · rename_i b
            split at e
            · rename_i E' t l hb
              cases hts : Nat.beq t.size j.size
              · rw [hts] at e; cases e
              · rw [hts] at e
                simp only [cond_true] at e
                split at e
                · rename_i sd c hc
                  cases e
                  refine ⟨.inl rfl, cIndexAddr_sound T el x y ho (hE.tl _ _ hi).1 hjk.1 (.inl hk) hc hs ⟨fun t' l' e' => (by cases e'), fun b' e' => ?_⟩ h (AV.one_rel ha (hev x)) (AV.one_rel hix (hev y))⟩
                  cases e'
                  refine ⟨hk, fun E2 t2 l2 hb2 => ?_, fun E2 t2 l1 c2 l2 hb2 => ?_⟩
                  · rw [hb] at hb2
                    cases hb2
                    exact Nat.eq_of_beq_eq_true hts
                  · rw [hb] at hb2; cases hb2
                · cases e
            · rename_i E' t q1 q2 q3 hb
              cases hts : Nat.beq t.size j.size
              · rw [hts] at e; cases e
              · rw [hts] at e
                simp only [cond_true] at e
                split at e
                · rename_i sd c hc
                  cases e
                  refine ⟨.inl rfl, cIndexAddr_sound T el x y ho (hE.tl _ _ hi).1 hjk.1 (.inl hk) hc hs ⟨fun t' l' e' => (by cases e'), fun b' e' => ?_⟩ h (AV.one_rel ha (hev x)) (AV.one_rel hix (hev y))⟩
                  cases e'
                  refine ⟨hk, fun E2 t2 l2 hb2 => ?_, fun E2 t2 l1 c2 l2 hb2 => ?_⟩
                  · rw [hb] at hb2; cases hb2
                  · rw [hb] at hb2
                    cases hb2
                    exact Nat.eq_of_beq_eq_true hts
                · cases e
            · rename_i E' m cs hb
              split at e
              · rename_i sd c hc
                cases e
                refine ⟨.inl rfl, cIndexAddr_sound T el x y ho (hE.tl _ _ hi).1 hjk.1 (.inl hk) hc hs ⟨fun t' l' e' => (by cases e'), fun b' e' => ?_⟩ h (AV.one_rel ha (hev x)) (AV.one_rel hix (hev y))⟩
                cases e'
                refine ⟨hk, fun E2 t2 l2 hb2 => ?_, fun E2 t2 l1 c2 l2 hb2 => ?_⟩
                · rw [hb] at hb2; cases hb2
                rw [hb] at hb2
                cases hb2
              · cases e
            · cases e
          · cases e
        · cases e
      · rename_i n el hk
        split at e
        · rename_i j hj
          have hjk := hE.tl _ _ hj
          split at e
          · rename_i b off
            split at e
            · rename_i sd c hc
              cases e
              exact ⟨.inl rfl, cIndexAddr_sound T el x y ho (hE.tl _ _ hi).1 hjk.1 (.inr ⟨n, hk⟩) hc hs ⟨fun t' l' e' => (by cases e'), fun b' e' => (by cases e')⟩ h (AV.one_rel ha (hev x)) (AV.one_rel hix (hev y))⟩
            · cases e
          · rename_i b q s k
            split at e
            · rename_i sd c hc
              cases e
              exact ⟨.inl rfl, cIndexAddr_sound T el x y ho (hE.tl _ _ hi).1 hjk.1 (.inr ⟨n, hk⟩) hc hs ⟨fun t' l' e' => (by cases e'), fun b' e' => (by cases e')⟩ h (AV.one_rel ha (hev x)) (AV.one_rel hix (hev y))⟩
            · cases e
          · rename_i t' x'
            split at e
            · rename_i sd c hc
              cases e
              exact ⟨.inl rfl, cIndexAddr_sound T el x y ho (hE.tl _ _ hi).1 hjk.1 (.inr ⟨n, hk⟩) hc hs ⟨fun t' l' e' => (by cases e'), fun b' e' => (by cases e')⟩ h (AV.one_rel ha (hev x)) (AV.one_rel hix (hev y))⟩
            · cases e
          · rename_i b q s k
            split at e
            · rename_i sd c hc
              cases e
              exact ⟨.inl rfl, cIndexAddr_sound T el x y ho (hE.tl _ _ hi).1 hjk.1 (.inr ⟨n, hk⟩) hc hs ⟨fun t' l' e' => (by cases e'), fun b' e' => (by cases e')⟩ h (AV.one_rel ha (hev x)) (AV.one_rel hix (hev y))⟩
            · cases e
          · cases e
        · cases e
      · cases e
    · cases e
  · -- index
    rename_i T x y ho
    split at e
    · rename_i i s ix hi ha hix
      split at e
      · rename_i n hk hn
        cases e
        exact ⟨.inl rfl, indexStr_sound T x y ho (hE.tl _ _ hi).1 hk hn hs h (AV.one_rel ha (hev x)) (AV.one_rel hix (hev y))⟩
      · cases e
    · rename_i i ix hi ha hix
      split at e
      · rename_i m el ls n hk hx hn
        split at e
        · rename_i j hj
          cases hle : Nat.ble (n.toNat * j.size + j.size) ls.length
          · rw [hle] at e; cases e
          · rw [hle] at e
            cases e
            have hax := hev x
            rw [hx] at hax
            exact ⟨.inl rfl, indexArr_sound T x y ho (hE.tl _ _ hi).1 hk (hE.tl _ _ hj).1 (hE.tl _ _ hj).2.1 (Nat.le_of_ble_eq_true hle) hn hs h hax (AV.one_rel hix (hev y))⟩
        · cases e
      · cases e
    · cases e
  · -- slice
    rename_i T x lo hi ho
    split at e
    · rename_i i a llo lhi hti ha hlo hhi
      split at e
      · rename_i t l el hk
        split at e
        · rename_i j hj
          cases hts : Nat.beq j.size t.size
          · rw [hts] at e; cases e
          · rw [hts] at e
            simp only [cond_true] at e
            split at e
            · rename_i sd c hc
              cases e
              refine ⟨.inl rfl, cSlice_sound T x lo hi ho (hE.tl _ _ hti).1 (cOpt_rel hev hlo) (cOpt_rel hev hhi) hc hs ⟨fun t' l' e' => ?_, fun s e' => (by cases e')⟩ h (AV.one_rel ha (hev x))⟩
              cases e'
              exact ⟨el, j, hk, (hE.tl _ _ hj).1, Nat.eq_of_beq_eq_true hts⟩
            · cases e
        · cases e
      · rename_i s hk
        split at e
        · rename_i sd c hc
          cases e
          exact ⟨.inl rfl, cSlice_sound T x lo hi ho (hE.tl _ _ hti).1 (cOpt_rel hev hlo) (cOpt_rel hev hhi) hc hs ⟨fun t' l' e' => (by cases e'), fun s e' => hk⟩ h (AV.one_rel ha (hev x))⟩
        · cases e
      · rename_i b el hk
        split at e
        · rename_i j hj
          split at e
          · rename_i E' t l hb
            cases hts : Nat.beq j.size t.size
            · rw [hts] at e; cases e
            · rw [hts] at e
              simp only [cond_true] at e
              split at e
              · rename_i sd c hc
                cases e
                refine ⟨.inl rfl, cView_sound T x lo hi ho (hE.tl _ _ hti).1 hk (hE.tl _ _ hj).1 (cOpt_rel hev hlo) (cOpt_rel hev hhi) hc hs (fun T' t' l' e' => ?_) h (AV.one_rel ha (hev x))⟩
                rw [hb] at e'
                cases e'
                exact Nat.eq_of_beq_eq_true hts
              · cases e
          · cases e
        · cases e
      · cases e
    · cases e
  · -- field
    rename_i s x f ho
    split at e
    · rename_i i ls hi hx
      split at e
      · rename_i fs hk
        split at e
        · rename_i off ft hf
          split at e
          · rename_i j hj
            cases hle : Nat.ble (off + j.size) ls.length
            · rw [hle] at e; cases e
            · rw [hle] at e
              cases e
              have := hev x
              rw [hx] at this
              exact ⟨.inl rfl, field_sound s x f ho (hE.tl _ _ hi).1 hk hf (hE.tl _ _ hj).1 (hE.tl _ _ hj).2.1 (Nat.le_of_ble_eq_true hle) h this⟩
          · cases e
        · cases e
      · cases e
    · cases e
  · -- extract
    rename_i x k ho
    split at e
    · rename_i es hx
      split at e
      · rename_i el he
        cases e
        have := hev x
        rw [hx] at this
        exact ⟨.inl rfl, extract_sound x k ho he h this⟩
      · cases e
    · cases e
  · -- len
    rename_i args ts ho
    split at e
    · rename_i x T hx hT
      split at e
      · rename_i i hi
        split at e
        · rename_i n hn
          cases e
          have h1 : args = #[x] := Array.toList_inj.1 hx
          have h2 : ts = #[T] := Array.toList_inj.1 hT
          subst h1; subst h2
          exact ⟨.inl rfl, cLen_sound T x ho (hE.tl _ _ hi).1 hn hs h (hev x)⟩
        · cases e
      · cases e
    · cases e
  · -- append
    rename_i args ts ho
    split at e
    · rename_i s x T T' hx hT
      cases hTT : Nat.beq T T'
      · rw [hTT] at e; cases e
      · rw [hTT] at e
        simp only [cond_true] at e
        obtain rfl := Nat.eq_of_beq_eq_true hTT
        have h1 : args = #[s, x] := Array.toList_inj.1 hx
        have h2 : ts = #[T, T] := Array.toList_inj.1 hT
        subst h1; subst h2
        split at e
        · rename_i i a c hi ha hc
          split at e
          · rename_i el hk
            split at e
            · rename_i j t hj ht
              split at e
              · rename_i cs e3
                split at e
                · rename_i b l e1 e2
                  cases e
                  obtain ⟨j', hj', hty⟩ := hE.ty _ _ ht
                  rw [hj] at hj'
                  cases hj'
                  exact ⟨.inr rfl, appendOpen_sound T el s x ho (hE.tl _ _ hi).1 hk hty (hE.tl _ _ hj).2.1 e1 e2 e3 hs.1 hs.2 h (AV.one_rel ha (hev s)) (AV.one_rel hc (hev x))⟩
                · cases e
              split at e
              · rename_i b l m e1 e2 e3
                cases e
                obtain ⟨j', hj', hty⟩ := hE.ty _ _ ht
                rw [hj] at hj'
                cases hj'
                exact ⟨.inr rfl, append_sound T el s x ho (hE.tl _ _ hi).1 hk hty (hE.tl _ _ hj).2.1 e1 e2 e3 hs.1 hs.2 h (AV.one_rel ha (hev s)) (AV.one_rel hc (hev x))⟩
              · cases e
            · cases e
          · cases e
        · cases e
    · cases e
  · -- max
    rename_i args ts ho
    split at e
    · rename_i x y hargs
      have h1 : args = #[x, y] := Array.toList_inj.1 hargs
      subst h1
      split at e
      · rename_i k a ly hx hy
        split at e
        · rename_i b hb
          cases e
          obtain ⟨k', hy'⟩ := lfInt_rel hb (AV.one_rel hy (hev y))
          have hx' : ρ x = .int k a := by
            have := (AV.one_rel hx (hev x)).1
            simpa using this
          refine ⟨.inl rfl, Runs.of_ok (v := .int k (max a b)) (w' := w) ?_ (Aft.still h (AV.rel_of (mkI_rel hs.1 hs.2)))⟩
          have : max a b = if b > a then b else a := max_if a b
          rw [this]
          simp only [execOp, ho, resolve, invoke, builtin, Builtin.max_, List.map_toArray, List.map_cons, List.map_nil, hx', hy', List.foldlM_cons, List.foldlM_nil, Builtin.max2, Sem.run_bind, Sem.run_pure, Result.andThen_ok]
        · cases e
      · cases e
    · cases e
  · -- min
    rename_i args ts ho
    split at e
    · rename_i x y hargs
      have h1 : args = #[x, y] := Array.toList_inj.1 hargs
      subst h1
      split at e
      · rename_i k a ly hx hy
        split at e
        · rename_i b hb
          cases e
          obtain ⟨k', hy'⟩ := lfInt_rel hb (AV.one_rel hy (hev y))
          have hx' : ρ x = .int k a := by
            have := (AV.one_rel hx (hev x)).1
            simpa using this
          refine ⟨.inl rfl, Runs.of_ok (v := .int k (min a b)) (w' := w) ?_ (Aft.still h (AV.rel_of (mkI_rel hs.1 hs.2)))⟩
          have : min a b = if b < a then b else a := min_if a b
          rw [this]
          simp only [execOp, ho, resolve, invoke, builtin, Builtin.min_, List.map_toArray, List.map_cons, List.map_nil, hx', hy', List.foldlM_cons, List.foldlM_nil, Builtin.min2, Sem.run_bind, Sem.run_pure, Result.andThen_ok]
        · cases e
      · cases e
    · cases e
  · -- convert
    rename_i src dst x ho
    split at e
    · rename_i i j s hi hj hx
      split at e
      · rename_i el h1 h2
        split at e
        · rename_i k hk
          split at e
          · rename_i h3
            cases e
            exact ⟨.inl rfl, conv_sb_sound src dst el x ho (hE.tl _ _ hi).1 (hE.tl _ _ hj).1 (hE.tl _ _ hk).1 h1 h2 h3 h (AV.one_rel hx (hev x))⟩
          · cases e
        · cases e
      · cases e
    · cases e
  · -- a function made here
    rename_i f first captured ho
    split at e
    · rename_i bs hf hc
      cases e
      have h1 : first = #[] := Array.toList_inj.1 hf
      subst h1
      obtain ⟨gs, g1, g2, g3⟩ := capN_rel hev hc
      refine ⟨.inl rfl, Runs.of_ok (v := .func (.func f) #[] (captured.map ρ)) (w' := w) (by simp only [execOp, ho, Instr.makeFunc, Sem.run_bind, Sem.run_pure, Result.andThen_ok, Array.map_empty]) (Aft.still h (AV.rel_of ⟨gs, ?_, g2, g3⟩))⟩
      congr 1
      apply Array.toList_inj.1
      rw [Array.toList_map, g1]
    · cases e
  · -- a call
    rename_i g args ts ho
    split at e
    · rename_i f cs hc
      split at e
      · rename_i s hsp
        obtain ⟨fn, q1, q2, q3, q4⟩ := hE.sp f s hsp
        obtain ⟨vs, v1, v2⟩ := callee_rel hev hc
        obtain ⟨m1, m2⟩ := q4 d _ hp r e hs
        refine ⟨m1, ?_⟩
        unfold Runs
        rw [run_call ho v1 q1 q2 q3]
        exact m2 F G w _ h (relAs_append (relAs_map hev _) v2)
      · cases e
    · cases e
  · cases e

/-! part SxL -/
/-- what an operation has left: the slot, the value, the heap's entries, the new names; the slots and the names that it has looked at -/
structure LE where
  dst : Option Nat
  x : AV
  hu : List HEnt
  nw : List Nat
  R : List Nat
  N : List Nat

def scrS : List Nat → (Nat → AV) → Nat → AV
  | [], sl => sl
  | d :: ds, sl => fun t => (scrS ds sl t).scrub d

def setS (dst : Option Nat) (x : AV) (sl : Nat → AV) : Nat → AV :=
  match dst with
  | none => sl
  | some d => upd sl d x

def tmpsOf (xs : Array Operand) : List Nat := xs.toList.filterMap fun | .tmp t => some t | _ => none
def gslot (ops : Array Oper) (o : Oper) : List Nat :=
  match o.guard with
  | none => []
  | some (j, _) => ((ops[j]?).bind (·.dst)).toList

/-- whether an operation is wanted: none where that is not known -/
def gstat (ops : Array Oper) (o : Oper) (sl : Nat → AV) : Option Bool :=
  match o.guard with
  | none => some true
  | some (j, want) => match (ops[j]?).bind (·.dst) with
    | none => none
    | some t => match sg sl t with
      | .v false [.d .bool b] => some (b == want)
      | .tu [] => some false
      | _ => none

/-- the operations that do not look at the heap -/
def heapFree : Op → Bool
  | .move _ => true
  | .assign _ => true
  | .nilCheck _ => true
  | .fieldAddr _ _ _ => true
  | _ => false
/-- the names whose objects an operation may look at -/
def opN (o : Oper) (l : List Nat) : List Nat := bif heapFree o.op then [] else l

def Does (E : Env) (n : Nat) (ops : Array Oper) (o : Oper) (sl : Nat → AV) (hp : Nat → Option Ob) (e : LE) : Prop :=
  (∀ d, o.dst = some d → d < n) ∧ e.dst = o.dst ∧ e.R = tmpsOf o.op.operands ++ gslot ops o ∧ e.N = opN o ((o.op.operands.toList.map (evA sl)).flatMap AV.names) ∧
  ((gstat ops o sl = some true ∧ ∃ r, stepA E o (E.nb + o.dst.getD 0) (evA sl) hp = some r ∧ r.side ∧ e.x = r.val ∧ e.hu = r.hu ∧ e.nw = r.nw ∧ (o.dst = none → r.nw = [])) ∨
   (gstat ops o sl = some false ∧ e.x = .tu [] ∧ e.hu = [] ∧ e.nw = []))

theorem Ext.avScr {Ft A : Nat → Prop} {G : Gh} {w : World} {A' : Nat → Prop} {G' : Gh} {w' : World} {nw : List Nat} {d : Nat} (h : Ext Ft A G w A' G' w' nw) (hn : nw = [] ∨ nw = [d]) {sl : Nat → AV} {t : Nat} {v : Value} (hr : (sl t).rel w G A v) : (scrS nw sl t).rel w' G' A' v := by
  rcases hn with rfl | rfl
  · exact h.av (by simp) hr
  · exact h.avS hr

theorem rep_put {F : Fr} {n : Nat} {sl : Nat → AV} {hp hp' : Nat → Option Ob} {G : Gh} {a : Act} {w w' : World} (h : Rep F n sl hp G a w) (dst : Option Nat) (hd : ∀ d, dst = some d → d < n) {x : AV} {nw : List Nat} {nm : Nat} (hn : nw = [] ∨ nw = [nm]) {v : Value} (ha : Aft F hp G w hp' x nw v w') :
    ∃ G', Rep F n (setS dst x (scrS nw sl)) hp' G' (a.put dst v) w' := by
  obtain ⟨G', h1, h2, h3⟩ := ha
  refine ⟨G', ?_, ?_, h.lm, ?_, h2⟩
  · cases dst <;> exact h.df
  · cases dst with
    | none => exact h.sz
    | some d => simp [Act.put, h.sz]
  · intro t
    have hs : (scrS nw sl t).rel w' G' (Okay F hp' G') (vl F a t) := h1.avScr hn (h.sl t)
    cases dst with
    | none => exact hs
    | some d =>
      have hdn := hd d rfl
      have hdS : d < SUS := Nat.lt_of_lt_of_le hdn h.lm
      show (upd (scrS nw sl) d x t).rel w' G' (Okay F hp' G') (vl F (a.put (some d) v) t)
      by_cases ht : t = d
      · subst ht
        rw [upd_same]
        have : vl F (a.put (some t) v) t = v := by
          rw [vl_lt hdS]
          show (a.tmps.setIfInBounds t v).getD t undef = v
          simp only [Array.getD_eq_getD_getElem?]
          rw [Array.getElem?_setIfInBounds_self_of_lt (by rw [h.sz]; exact hdn)]
          rfl
        rw [this]
        exact h3
      · rw [upd_ne _ _ ht]
        have : vl F (a.put (some d) v) t = vl F a t := by
          unfold vl
          show (bif Nat.blt t SUS then (a.tmps.setIfInBounds d v).getD t undef else F.old t) = _
          simp only [Array.getD_eq_getD_getElem?]
          rw [Array.getElem?_setIfInBounds_ne (Ne.symm ht)]
        rw [this]
        exact hs

theorem gstat_wanted {n : Nat} {F : Fr} {sl : Nat → AV} {hp : Nat → Option Ob} {G : Gh} {a : Act} {w : World} (h : Rep F n sl hp G a w) {ops : Array Oper} {o : Oper} {b : Bool} (e : gstat ops o sl = some b) : Region.wanted o (yielded ops a.tmps) = b := by
  unfold gstat at e
  unfold Region.wanted
  split at e
  · rename_i hg
    rw [hg]
    cases e
    rfl
  · rename_i j want hg
    rw [hg]
    split at e
    · cases e
    · rename_i t ht
      have hr := sg_rel h.sl t
      have hlt : ∀ u, a.tmps.getD t undef = .bool u → yielded ops a.tmps j = some u := by
        intro u hu
        unfold yielded
        rw [ht]
        simp only [Option.bind_some]
        rw [Array.getD_eq_getD_getElem?] at hu
        cases hq : a.tmps[t]? with
        | none => rw [hq] at hu; cases hu
        | some y => rw [hq] at hu; simp only [Option.getD_some] at hu; rw [hu]
      split at e
      · rename_i c hc
        cases e
        rw [hc] at hr
        have hv : a.tmps.getD t undef = .bool c := by
          have := rel_one_iff.1 hr
          simpa using (show [a.tmps.getD t undef] = [.bool c] from this)
        show (yielded ops a.tmps j == some want) = _
        rw [hlt c hv]
        cases c <;> cases want <;> rfl
      · rename_i hc
        cases e
        rw [hc] at hr
        have hv : a.tmps.getD t undef = .tuple #[] := by
          obtain ⟨vs, h1, h2⟩ := hr
          obtain rfl := (show vs = _ from h2)
          exact h1
        have : yielded ops a.tmps j = none := by
          unfold yielded
          rw [ht]
          simp only [Option.bind_some]
          rw [Array.getD_eq_getD_getElem?] at hv
          cases hq : a.tmps[t]? with
          | none => rfl
          | some y => rw [hq] at hv; simp only [Option.getD_some] at hv; rw [hv]
        show (yielded ops a.tmps j == some want) = _
        rw [this]
        rfl
      · cases e

theorem tu_nil_rel {w : World} {G : Gh} {A : Nat → Prop} : (AV.tu []).rel w G A undef := ⟨[], rfl, rfl⟩

/-- an operation that the executor has done, run -/
theorem Does.run {P : Program} {E : Env} (hE : E.Ok P) {n : Nat} {ops : Array Oper} {o : Oper} {sl : Nat → AV} {hp : Nat → Option Ob} {e : LE} (h : Does E n ops o sl hp e) {F : Fr} {G : Gh} {a : Act} {w : World} (hr : Rep F n sl hp G a w)
    {Q : Exit → Act → World → Prop} {K : Act → World → Prop} (hK : ∀ G' a' w', Rep F n (setS e.dst e.x (scrS e.nw sl)) (happ e.hu hp) G' a' w' → K a' w') :
    if Region.wanted o (yielded ops a.tmps) then o.wp P a w K Q ∨ (o.asks P a w ∧ LetsOut Q) else K (a.put o.dst undef) w := by
  obtain ⟨h1, h2, _, _, h3⟩ := h
  rcases h3 with ⟨hg, r, k1, k2, k3, k4, k5, k6⟩ | ⟨hg, k3, k4, k5⟩
  · rw [gstat_wanted hr hg]
    simp only [if_true]
    obtain ⟨q1, q2⟩ := stepA_sound hE k1 k2 hr.hp (fun x => evA_rel hr.sl x)
    refine .inl (Runs.wp q2 fun v w' haft => ?_)
    obtain ⟨G', hrep⟩ := rep_put hr o.dst h1 q1 haft
    refine hK G' _ w' ?_
    rw [h2, k3, k4, k5]
    exact hrep
  · rw [gstat_wanted hr hg]
    simp only [Bool.false_eq_true, if_false]
    obtain ⟨G', hrep⟩ := rep_put (hp' := hp) (nm := 0) hr o.dst h1 (.inl rfl) (Aft.still hr.hp (tu_nil_rel))
    refine hK G' _ w ?_
    rw [h2, k3, k4, k5]
    exact hrep

/-! part SxN -/
def Chain (E : Env) (n : Nat) (ops : Array Oper) : List Oper → List LE → (Nat → AV) → (Nat → Option Ob) → (Nat → AV) → (Nat → Option Ob) → Prop
  | [], [], s, h, s', h' => s' = s ∧ h' = h
  | o :: r, e :: es, s, h, s', h' => Does E n ops o s h e ∧ Chain E n ops r es (setS e.dst e.x (scrS e.nw s)) (happ e.hu h) s' h'
  | _, _, _, _, _, _ => False

/-- the operations in their order -/
theorem Chain.list {P : Program} {E : Env} (hE : E.Ok P) {n : Nat} {ops : Array Oper} {F : Fr} {Q : Exit → Act → World → Prop} {s' : Nat → AV} {h' : Nat → Option Ob} (hQ : ∀ G a w, Rep F n s' h' G a w → Q .normal a w) :
    ∀ (l : List Oper) (es : List LE) (s : Nat → AV) (h : Nat → Option Ob), Chain E n ops l es s h s' h' → ∀ G a w, Rep F n s h G a w → wpList P ops Q l a w
  | [], [], s, h, hc, G, a, w, hr => by obtain ⟨rfl, rfl⟩ := hc; exact hQ G a w hr
  | o :: r, e :: es, s, h, hc, G, a, w, hr => by
    obtain ⟨h1, h2⟩ := hc
    exact h1.run hE hr (fun G' a' w' hr' => Chain.list hE hQ r es _ _ h2 G' a' w' hr')
  | [], _ :: _, s, h, hc, G, a, w, hr => hc.elim
  | _ :: _, [], s, h, hc, G, a, w, hr => hc.elim

/-! ### scrubbing by a predicate -/
def Lf.scrubP (P : Nat → Bool) : Lf → Lf
  | .p b off => bif P b then .un else .p b off
  | .o b => bif P b then .un else .o b
  | .pe b i s k => bif P b then .un else .pe b i s k
  | .px b i s k => bif P b then .un else .px b i s k
  | .vw b i s k => bif P b then .un else .vw b i s k
  | .fn f c => bif c.any P then .un else .fn f c
  | x => x
def AV.scrubP (P : Nat → Bool) : AV → AV
  | .v agg ls => .v agg (ls.map (Lf.scrubP P))
  | .tu es => .tu (es.map fun e => (e.1, e.2.map (Lf.scrubP P)))
  | .un => .un
def Ob.scrubP (P : Nat → Bool) : Ob → Ob
  | .box T cs => .box T (cs.map (Lf.scrubP P))
  | .arr E n cs => .arr E n (cs.map (Lf.scrubP P))
  | .row E t l => .row E t l
  | .rox E t l1 cs l2 => .rox E t l1 (cs.map (Lf.scrubP P)) l2
  | .bld T e l => .bld T e l

theorem Lf.scrubP_same {P P' : Nat → Bool} {x : Lf} (h : ∀ b ∈ x.names, P b = P' b) : x.scrubP P = x.scrubP P' := by
  cases x with
  | p b off => simp only [Lf.scrubP, h b (by simp [Lf.names])]
  | o b => simp only [Lf.scrubP, h b (by simp [Lf.names])]
  | pe b i s k => simp only [Lf.scrubP, h b (by simp [Lf.names])]
  | px b i s k => simp only [Lf.scrubP, h b (by simp [Lf.names])]
  | vw b i s k => simp only [Lf.scrubP, h b (by simp [Lf.names])]
  | fn f c =>
    have : c.any P = c.any P' := by
      rw [Bool.eq_iff_iff, List.any_eq_true, List.any_eq_true]
      constructor
      · rintro ⟨b, h1, h2⟩; exact ⟨b, h1, by rw [← h b h1]; exact h2⟩
      · rintro ⟨b, h1, h2⟩; exact ⟨b, h1, by rw [h b h1]; exact h2⟩
    simp only [Lf.scrubP, this]
  | _ => rfl
theorem Lf.scrubP_none {x : Lf} : x.scrubP (fun _ => false) = x := by
  cases x with
  | fn f c =>
    have : c.any (fun _ => false) = false := by rw [List.any_eq_false]; simp
    simp only [Lf.scrubP, this]; rfl
  | _ => rfl
theorem Lf.scrub_eq (d : Nat) (x : Lf) : x.scrub d = x.scrubP (fun b => Nat.beq b d) := by
  cases x <;> rfl
theorem Lf.scrubP_scrubP (P P' : Nat → Bool) (x : Lf) : (x.scrubP P).scrubP P' = x.scrubP (fun b => P b || P' b) := by
  cases x with
  | p b off => simp only [Lf.scrubP]; cases P b <;> simp [Lf.scrubP]
  | o b => simp only [Lf.scrubP]; cases P b <;> simp [Lf.scrubP]
  | pe b i s k => simp only [Lf.scrubP]; cases P b <;> simp [Lf.scrubP]
  | px b i s k => simp only [Lf.scrubP]; cases P b <;> simp [Lf.scrubP]
  | vw b i s k => simp only [Lf.scrubP]; cases P b <;> simp [Lf.scrubP]
  | fn f c =>
    have : c.any (fun b => P b || P' b) = (c.any P || c.any P') := by
      rw [Bool.eq_iff_iff, Bool.or_eq_true, List.any_eq_true, List.any_eq_true, List.any_eq_true]
      constructor
      · rintro ⟨b, h1, h2⟩
        rcases Bool.or_eq_true_iff.1 h2 with h2 | h2
        · exact .inl ⟨b, h1, h2⟩
        · exact .inr ⟨b, h1, h2⟩
      · rintro (⟨b, h1, h2⟩ | ⟨b, h1, h2⟩)
        · exact ⟨b, h1, by rw [h2]; rfl⟩
        · exact ⟨b, h1, by rw [h2, Bool.or_true]⟩
    simp only [Lf.scrubP, this]
    cases c.any P <;> simp [Lf.scrubP]
  | _ => rfl

theorem AV.scrubP_same {P P' : Nat → Bool} {x : AV} (h : ∀ b ∈ x.names, P b = P' b) : x.scrubP P = x.scrubP P' := by
  cases x with
  | v agg ls =>
    simp only [AV.scrubP]
    congr 1
    exact List.map_congr_left fun l hl => Lf.scrubP_same fun b hb => h b (List.mem_flatMap.2 ⟨l, hl, hb⟩)
  | tu es =>
    simp only [AV.scrubP]
    congr 1
    refine List.map_congr_left fun e he => ?_
    congr 1
    exact List.map_congr_left fun l hl => Lf.scrubP_same fun b hb => h b (List.mem_flatMap.2 ⟨e, he, List.mem_flatMap.2 ⟨l, hl, hb⟩⟩)
  | un => rfl
theorem AV.scrubP_none {x : AV} : x.scrubP (fun _ => false) = x := by
  have e : Lf.scrubP (fun _ => false) = id := funext fun _ => Lf.scrubP_none
  cases x with
  | v agg ls => simp only [AV.scrubP, e, List.map_id]
  | tu es => simp only [AV.scrubP, e, List.map_id]; congr 1; exact List.map_id' es
  | un => rfl
theorem AV.scrub_eq (d : Nat) (x : AV) : x.scrub d = x.scrubP (fun b => Nat.beq b d) := by
  have e : Lf.scrub d = Lf.scrubP (fun b => Nat.beq b d) := funext (Lf.scrub_eq d)
  cases x <;> simp only [AV.scrub, AV.scrubP, e]
theorem AV.scrubP_scrubP (P P' : Nat → Bool) (x : AV) : (x.scrubP P).scrubP P' = x.scrubP (fun b => P b || P' b) := by
  have e : Lf.scrubP P' ∘ Lf.scrubP P = Lf.scrubP (fun b => P b || P' b) := funext (Lf.scrubP_scrubP P P')
  cases x with
  | v agg ls => simp only [AV.scrubP, List.map_map, e]
  | tu es => simp only [AV.scrubP, List.map_map, Function.comp_def, ← e]
  | un => rfl
theorem Ob.scrubP_same {P P' : Nat → Bool} {x : Ob} (h : ∀ b ∈ x.names, P b = P' b) : x.scrubP P = x.scrubP P' := by
  cases x with
  | box T cs => simp only [Ob.scrubP]; congr 1; exact List.map_congr_left fun l hl => Lf.scrubP_same fun b hb => h b (List.mem_flatMap.2 ⟨l, hl, hb⟩)
  | arr E n cs => simp only [Ob.scrubP]; congr 1; exact List.map_congr_left fun l hl => Lf.scrubP_same fun b hb => h b (List.mem_flatMap.2 ⟨l, hl, hb⟩)
  | row E t l => rfl
  | rox E t l1 cs l2 => simp only [Ob.scrubP]; congr 1; exact List.map_congr_left fun l hl => Lf.scrubP_same fun b hb => h b (List.mem_flatMap.2 ⟨l, hl, hb⟩)
  | bld T e l => rfl
theorem Ob.scrubP_none {x : Ob} : x.scrubP (fun _ => false) = x := by
  have e : Lf.scrubP (fun _ => false) = id := funext fun _ => Lf.scrubP_none
  cases x <;> simp only [Ob.scrubP, e, List.map_id]
theorem Ob.scrub_eq (d : Nat) (x : Ob) : x.scrub d = x.scrubP (fun b => Nat.beq b d) := by
  have e : Lf.scrub d = Lf.scrubP (fun b => Nat.beq b d) := funext (Lf.scrub_eq d)
  cases x <;> simp only [Ob.scrub, Ob.scrubP, e]
theorem Ob.scrubP_scrubP (P P' : Nat → Bool) (x : Ob) : (x.scrubP P).scrubP P' = x.scrubP (fun b => P b || P' b) := by
  have e : Lf.scrubP P' ∘ Lf.scrubP P = Lf.scrubP (fun b => P b || P' b) := funext (Lf.scrubP_scrubP P P')
  cases x <;> simp only [Ob.scrubP, List.map_map, e]

def inL (l : List Nat) (b : Nat) : Bool := l.any fun d => Nat.beq b d
theorem inL_iff {l : List Nat} {b : Nat} : inL l b = true ↔ b ∈ l := by
  unfold inL
  rw [List.any_eq_true]
  constructor
  · rintro ⟨d, h1, h2⟩; rw [Nat.eq_of_beq_eq_true h2]; exact h1
  · intro h; exact ⟨b, h, Nat.beq_refl b⟩
theorem inL_false {l : List Nat} {b : Nat} : inL l b = false ↔ b ∉ l := by
  rw [← Bool.not_eq_true, inL_iff]

theorem scrS_eq : ∀ (nw : List Nat) (s : Nat → AV) (t : Nat), scrS nw s t = (s t).scrubP (inL nw)
  | [], s, t => by
    show s t = _
    rw [show inL [] = fun _ => false from rfl, AV.scrubP_none]
  | d :: ds, s, t => by
    show (scrS ds s t).scrub d = _
    rw [scrS_eq ds s t, AV.scrub_eq, AV.scrubP_scrubP]
    congr 1
    funext b
    simp only [inL, List.any_cons]
    exact Bool.or_comm _ _

/-- the names that a step's entries touch; those that they scrub -/
def huM : List HEnt → List Nat
  | [] => []
  | .put b _ :: l => b :: huM l
  | .scr b d :: l => b :: d :: huM l
def huD : List HEnt → List Nat
  | [] => []
  | .put _ _ :: l => huD l
  | .scr _ d :: l => d :: huD l
def huV : List HEnt → List Nat
  | [] => []
  | .put _ ob :: l => ob.names ++ huV l
  | .scr _ _ :: l => huV l

theorem happ_in : ∀ (hu : List HEnt) (h h' : Nat → Option Ob) (b : Nat), b ∈ huM hu → happ hu h b = happ hu h' b
  | .put c ob :: l, h, h', b, hb => by
    show upd (happ l h) c (some ob) b = upd (happ l h') c (some ob) b
    by_cases e : b = c
    · subst e; rw [upd_same, upd_same]
    · rw [upd_ne _ _ e, upd_ne _ _ e]
      exact happ_in l h h' b (by simp [huM, e] at hb; exact hb)
  | .scr c d :: l, h, h', b, hb => by
    show scrH (happ l h) c d b = scrH (happ l h') c d b
    unfold scrH
    by_cases e : b = c ∨ b = d
    · rw [if_pos e, if_pos e]
    · rw [if_neg e, if_neg e]
      rw [happ_in l h h' b (by
        simp only [huM, List.mem_cons] at hb
        rcases hb with q | q | q
        · exact absurd (.inl q) e
        · exact absurd (.inr q) e
        · exact q)]
theorem happ_out : ∀ (hu : List HEnt) (h : Nat → Option Ob) (b : Nat), b ∉ huM hu → happ hu h b = (h b).map (Ob.scrubP (inL (huD hu)))
  | [], h, b, _ => by
    show h b = _
    rw [show inL (huD []) = fun _ => false from rfl]
    cases h b with
    | none => rfl
    | some o => rw [Option.map_some, Ob.scrubP_none]
  | .put c ob :: l, h, b, hb => by
    simp only [huM, List.mem_cons, not_or] at hb
    show upd (happ l h) c (some ob) b = _
    rw [upd_ne _ _ hb.1, happ_out l h b hb.2]
    rfl
  | .scr c d :: l, h, b, hb => by
    simp only [huM, List.mem_cons, not_or] at hb
    show scrH (happ l h) c d b = _
    unfold scrH
    rw [if_neg (by rintro (q | q); exact hb.1 q; exact hb.2.1 q), happ_out l h b hb.2.2, Option.map_map]
    congr 1
    funext o
    simp only [Function.comp]
    rw [Ob.scrub_eq, Ob.scrubP_scrubP]
    congr 1
    funext b'
    simp only [huD, inL, List.any_cons]
    exact Bool.or_comm _ _
theorem happ_names : ∀ (hu : List HEnt) (b : Nat) (o : Ob), happ hu (fun _ => none) b = some o → ∀ c ∈ o.names, c ∈ huV hu
  | [], b, o, h => by cases h
  | .put d ob :: l, b, o, h => by
    intro c hc
    have h' : upd (happ l (fun _ => none)) d (some ob) b = some o := h
    simp only [huV, List.mem_append]
    by_cases e : b = d
    · subst e; rw [upd_same] at h'; cases h'; exact .inl hc
    · rw [upd_ne _ _ e] at h'; exact .inr (happ_names l b o h' c hc)
  | .scr d d' :: l, b, o, h => by
    intro c hc
    obtain ⟨_, _, o0, h1, rfl⟩ := scrH_some (hp := happ l (fun _ => none)) h
    refine happ_names l b o0 h1 c ?_
    have key : ∀ cs : List Lf, c ∈ (cs.map (Lf.scrub d')).flatMap Lf.names → c ∈ cs.flatMap Lf.names := by
      intro cs hh
      obtain ⟨x, h2, h3⟩ := List.mem_flatMap.1 hh
      obtain ⟨y, h4, rfl⟩ := List.mem_map.1 h2
      refine List.mem_flatMap.2 ⟨y, h4, ?_⟩
      cases y with
      | p b off => simp only [Lf.scrub] at h3; cases hq : Nat.beq b d' <;> rw [hq] at h3 <;> first | exact h3 | cases h3
      | o b => simp only [Lf.scrub] at h3; cases hq : Nat.beq b d' <;> rw [hq] at h3 <;> first | exact h3 | cases h3
      | pe b i s k => simp only [Lf.scrub] at h3; cases hq : Nat.beq b d' <;> rw [hq] at h3 <;> first | exact h3 | cases h3
      | px b i s k => simp only [Lf.scrub] at h3; cases hq : Nat.beq b d' <;> rw [hq] at h3 <;> first | exact h3 | cases h3
      | vw b i s k => simp only [Lf.scrub] at h3; cases hq : Nat.beq b d' <;> rw [hq] at h3 <;> first | exact h3 | cases h3
      | fn f cc => simp only [Lf.scrub] at h3; cases hq : cc.any (fun b => Nat.beq b d') <;> rw [hq] at h3 <;> first | exact h3 | cases h3
      | _ => exact h3
    cases o0 with
    | box T cs => exact key cs hc
    | arr E n cs => exact key cs hc
    | row E t l => cases hc
    | rox E t l1 cs l2 => exact key cs hc
    | bld T e l => cases hc

/-! ### what a set of operations has left -/
def slotF (D : Nat → Bool) (t : Nat) : List LE → Nat → AV → AV
  | [], _, x => x
  | e :: L, k, x => slotF D t L (k + 1) (bif D k && (e.dst == some t) then e.x else x)
def heapF (D : Nat → Bool) (b : Nat) : List LE → Nat → Option Ob → Option Ob
  | [], _, o => o
  | e :: L, k, o => heapF D b L (k + 1) (bif D k && inL (huM e.hu) b then happ e.hu (fun _ => none) b else o)
def nwF (D : Nat → Bool) (d : Nat) : List LE → Nat → Bool
  | [], _ => false
  | e :: L, k => (D k && inL e.nw d) || nwF D d L (k + 1)

def SD (L : List LE) (s : Nat → AV) (D : Nat → Bool) (t : Nat) : AV := slotF D t L 0 ((s t).scrubP fun d => nwF D d L 0)
def HD (L : List LE) (h : Nat → Option Ob) (D : Nat → Bool) (b : Nat) : Option Ob := heapF D b L 0 ((h b).map (Ob.scrubP fun d => nwF D d L 0))

theorem slotF_congr {D D' : Nat → Bool} {t : Nat} : ∀ (L : List LE) (k : Nat) (x : AV), (∀ j (e : LE), L[j]? = some e → e.dst = some t → D (k + j) = D' (k + j)) → slotF D t L k x = slotF D' t L k x
  | [], _, _, _ => rfl
  | e :: L, k, x, h => by
    have h0 : (bif D k && (e.dst == some t) then e.x else x) = (bif D' k && (e.dst == some t) then e.x else x) := by
      by_cases hd : e.dst = some t
      · have := h 0 e rfl hd
        rw [Nat.add_zero] at this
        rw [this]
      · have : (e.dst == some t) = false := by simpa using hd
        rw [this, Bool.and_false, Bool.and_false]
    unfold slotF
    rw [h0]
    exact slotF_congr L (k + 1) _ (fun j e' he hd => by
      have := h (j + 1) e' he hd
      rwa [show k + (j + 1) = k + 1 + j by omega] at this)
theorem heapF_congr {D D' : Nat → Bool} {b : Nat} : ∀ (L : List LE) (k : Nat) (x : Option Ob), (∀ j (e : LE), L[j]? = some e → b ∈ huM e.hu → D (k + j) = D' (k + j)) → heapF D b L k x = heapF D' b L k x
  | [], _, _, _ => rfl
  | e :: L, k, x, h => by
    have h0 : (bif D k && inL (huM e.hu) b then happ e.hu (fun _ => none) b else x) = (bif D' k && inL (huM e.hu) b then happ e.hu (fun _ => none) b else x) := by
      by_cases hd : b ∈ huM e.hu
      · have := h 0 e rfl hd
        rw [Nat.add_zero] at this
        rw [this]
      · rw [inL_false.2 hd, Bool.and_false, Bool.and_false]
    unfold heapF
    rw [h0]
    exact heapF_congr L (k + 1) _ (fun j e' he hd => by
      have := h (j + 1) e' he hd
      rwa [show k + (j + 1) = k + 1 + j by omega] at this)
theorem nwF_congr {D D' : Nat → Bool} {d : Nat} : ∀ (L : List LE) (k : Nat), (∀ j (e : LE), L[j]? = some e → d ∈ e.nw → D (k + j) = D' (k + j)) → nwF D d L k = nwF D' d L k
  | [], _, _ => rfl
  | e :: L, k, h => by
    have h0 : (D k && inL e.nw d) = (D' k && inL e.nw d) := by
      by_cases hd : d ∈ e.nw
      · have := h 0 e rfl hd
        rw [Nat.add_zero] at this
        rw [this]
      · rw [inL_false.2 hd, Bool.and_false, Bool.and_false]
    unfold nwF
    rw [h0, nwF_congr (D := D) (D' := D') L (k + 1) (fun j e' he hd => by
      have := h (j + 1) e' he hd
      rwa [show k + (j + 1) = k + 1 + j by omega] at this)]

/-- one more operation: in its slot its value, elsewhere what was there, scrubbed -/
theorem slotF_add {D : Nat → Bool} {t i : Nat} {P : Nat → Bool} {ei : LE} : ∀ (L : List LE) (k : Nat) (x x' : AV), L[i]? = some ei → D (k + i) = false →
    (∀ j (e : LE), L[j]? = some e → D (k + j) = true → e.dst = some t → e.x.scrubP P = e.x) → (∀ j (e : LE), L[j]? = some e → D (k + j) = true → i < j → ei.dst = some t → e.dst ≠ some t) → (ei.dst ≠ some t → x' = x.scrubP P) →
    slotF (upd D (k + i) true) t L k x' = bif ei.dst == some t then ei.x else (slotF D t L k x).scrubP P := by
  intro L
  induction L generalizing i with
  | nil => intro k x x' h; simp at h
  | cons e L ih =>
    intro k x x' hi hD hV hlast hx
    unfold slotF
    cases i with
    | zero =>
      simp only [List.getElem?_cons_zero, Option.some.injEq] at hi
      subst hi
      rw [Nat.add_zero] at hD ⊢
      rw [upd_same, Bool.true_and, hD, Bool.false_and, cond_false]
      have hcg : ∀ y, slotF (upd D k true) t L (k + 1) y = slotF D t L (k + 1) y := fun y => slotF_congr L (k + 1) y (fun j e' _ _ => upd_ne _ _ (by omega))
      rw [hcg]
      by_cases hd : e.dst = some t
      · have hb : (e.dst == some t) = true := by simpa using hd
        rw [hb, cond_true, cond_true]
        have key : ∀ (L' : List LE) (m : Nat) (y : AV), (∀ j (e' : LE), L'[j]? = some e' → D (m + j) = true → e'.dst ≠ some t) → slotF D t L' m y = y := by
          intro L'
          induction L' with
          | nil => intro m y _; rfl
          | cons e1 L' ih' =>
            intro m y hh
            unfold slotF
            have h0 : (D m && (e1.dst == some t)) = false := by
              cases hm : D m
              · rfl
              · have := hh 0 e1 rfl (by rw [Nat.add_zero]; exact hm)
                simpa using this
            rw [h0, cond_false]
            exact ih' (m + 1) y (fun j e' he hj => hh (j + 1) e' he (by rwa [show m + (j + 1) = m + 1 + j by omega]))
        exact key L (k + 1) _ (fun j e' he hj => hlast (j + 1) e' he (by rwa [show k + (j + 1) = k + 1 + j by omega]) (by omega) hd)
      · have hb : (e.dst == some t) = false := by simpa using hd
        rw [hb, cond_false, cond_false, hx hd]
        have key : ∀ (L' : List LE) (m : Nat) (y : AV), (∀ j (e' : LE), L'[j]? = some e' → D (m + j) = true → e'.dst = some t → e'.x.scrubP P = e'.x) → slotF D t L' m (y.scrubP P) = (slotF D t L' m y).scrubP P := by
          intro L'
          induction L' with
          | nil => intro m y _; rfl
          | cons e1 L' ih' =>
            intro m y hh
            unfold slotF
            have h0 : (bif D m && (e1.dst == some t) then e1.x else y.scrubP P) = (bif D m && (e1.dst == some t) then e1.x else y).scrubP P := by
              cases hm : (D m && (e1.dst == some t))
              · rfl
              · obtain ⟨q1, q2⟩ := Bool.and_eq_true_iff.1 hm
                exact (hh 0 e1 rfl (by rw [Nat.add_zero]; exact q1) (by simpa using q2)).symm
            rw [h0]
            exact ih' (m + 1) _ (fun j e' he hj => hh (j + 1) e' he (by rwa [show m + (j + 1) = m + 1 + j by omega]))
        exact key L (k + 1) x (fun j e' he hj => hV (j + 1) e' he (by rwa [show k + (j + 1) = k + 1 + j by omega]))
    | succ i =>
      have hk : upd D (k + (i + 1)) true k = D k := upd_ne _ _ (by omega)
      rw [hk, show k + (i + 1) = k + 1 + i by omega]
      refine ih (k + 1) _ _ (by simpa using hi) (by rwa [show k + 1 + i = k + (i + 1) by omega]) (fun j e' he hj => hV (j + 1) e' he (by rwa [show k + (j + 1) = k + 1 + j by omega]))
        (fun j e' he hj hij => hlast (j + 1) e' he (by rwa [show k + (j + 1) = k + 1 + j by omega]) (by omega)) (fun hd => ?_)
      cases hm : (D k && (e.dst == some t))
      · exact hx hd
      · obtain ⟨q1, q2⟩ := Bool.and_eq_true_iff.1 hm
        exact (hV 0 e rfl (by rw [Nat.add_zero]; exact q1) (by simpa using q2)).symm

theorem heapF_add {D : Nat → Bool} {b i : Nat} {P : Nat → Bool} {ei : LE} : ∀ (L : List LE) (k : Nat) (x x' : Option Ob), L[i]? = some ei → D (k + i) = false →
    (∀ j (e : LE), L[j]? = some e → D (k + j) = true → b ∈ huM e.hu → (happ e.hu (fun _ => none) b).map (Ob.scrubP P) = happ e.hu (fun _ => none) b) → (∀ j (e : LE), L[j]? = some e → D (k + j) = true → i < j → b ∈ huM ei.hu → b ∉ huM e.hu) → (b ∉ huM ei.hu → x' = x.map (Ob.scrubP P)) →
    heapF (upd D (k + i) true) b L k x' = bif inL (huM ei.hu) b then happ ei.hu (fun _ => none) b else (heapF D b L k x).map (Ob.scrubP P) := by
  intro L
  induction L generalizing i with
  | nil => intro k x x' h; simp at h
  | cons e L ih =>
    intro k x x' hi hD hV hlast hx
    unfold heapF
    cases i with
    | zero =>
      simp only [List.getElem?_cons_zero, Option.some.injEq] at hi
      subst hi
      rw [Nat.add_zero] at hD ⊢
      rw [upd_same, Bool.true_and, hD, Bool.false_and, cond_false]
      have hcg : ∀ y, heapF (upd D k true) b L (k + 1) y = heapF D b L (k + 1) y := fun y => heapF_congr L (k + 1) y (fun j e' _ _ => upd_ne _ _ (by omega))
      rw [hcg]
      by_cases hd : b ∈ huM e.hu
      · rw [inL_iff.2 hd, cond_true, cond_true]
        have key : ∀ (L' : List LE) (m : Nat) (y : Option Ob), (∀ j (e' : LE), L'[j]? = some e' → D (m + j) = true → b ∉ huM e'.hu) → heapF D b L' m y = y := by
          intro L'
          induction L' with
          | nil => intro m y _; rfl
          | cons e1 L' ih' =>
            intro m y hh
            unfold heapF
            have h0 : (D m && inL (huM e1.hu) b) = false := by
              cases hm : D m
              · rfl
              · rw [Bool.true_and]; exact inL_false.2 (hh 0 e1 rfl (by rw [Nat.add_zero]; exact hm))
            rw [h0, cond_false]
            exact ih' (m + 1) y (fun j e' he hj => hh (j + 1) e' he (by rwa [show m + (j + 1) = m + 1 + j by omega]))
        exact key L (k + 1) _ (fun j e' he hj => hlast (j + 1) e' he (by rwa [show k + (j + 1) = k + 1 + j by omega]) (by omega) hd)
      · rw [inL_false.2 hd, cond_false, cond_false, hx hd]
        have key : ∀ (L' : List LE) (m : Nat) (y : Option Ob), (∀ j (e' : LE), L'[j]? = some e' → D (m + j) = true → b ∈ huM e'.hu → (happ e'.hu (fun _ => none) b).map (Ob.scrubP P) = happ e'.hu (fun _ => none) b) → heapF D b L' m (y.map (Ob.scrubP P)) = (heapF D b L' m y).map (Ob.scrubP P) := by
          intro L'
          induction L' with
          | nil => intro m y _; rfl
          | cons e1 L' ih' =>
            intro m y hh
            unfold heapF
            have h0 : (bif D m && inL (huM e1.hu) b then happ e1.hu (fun _ => none) b else y.map (Ob.scrubP P)) = (bif D m && inL (huM e1.hu) b then happ e1.hu (fun _ => none) b else y).map (Ob.scrubP P) := by
              cases hm : (D m && inL (huM e1.hu) b)
              · rfl
              · obtain ⟨q1, q2⟩ := Bool.and_eq_true_iff.1 hm
                exact (hh 0 e1 rfl (by rw [Nat.add_zero]; exact q1) (inL_iff.1 q2)).symm
            rw [h0]
            exact ih' (m + 1) _ (fun j e' he hj => hh (j + 1) e' he (by rwa [show m + (j + 1) = m + 1 + j by omega]))
        exact key L (k + 1) x (fun j e' he hj => hV (j + 1) e' he (by rwa [show k + (j + 1) = k + 1 + j by omega]))
    | succ i =>
      have hk : upd D (k + (i + 1)) true k = D k := upd_ne _ _ (by omega)
      rw [hk, show k + (i + 1) = k + 1 + i by omega]
      refine ih (k + 1) _ _ (by simpa using hi) (by rwa [show k + 1 + i = k + (i + 1) by omega]) (fun j e' he hj => hV (j + 1) e' he (by rwa [show k + (j + 1) = k + 1 + j by omega]))
        (fun j e' he hj hij => hlast (j + 1) e' he (by rwa [show k + (j + 1) = k + 1 + j by omega]) (by omega)) (fun hd => ?_)
      cases hm : (D k && inL (huM e.hu) b)
      · exact hx hd
      · obtain ⟨q1, q2⟩ := Bool.and_eq_true_iff.1 hm
        exact (hV 0 e rfl (by rw [Nat.add_zero]; exact q1) (inL_iff.1 q2)).symm
theorem nwF_add {D : Nat → Bool} {d i : Nat} {ei : LE} : ∀ (L : List LE) (k : Nat), L[i]? = some ei → nwF (upd D (k + i) true) d L k = (nwF D d L k || inL ei.nw d) := by
  intro L
  induction L generalizing i with
  | nil => intro k h; simp at h
  | cons e L ih =>
    intro k hi
    unfold nwF
    cases i with
    | zero =>
      simp only [List.getElem?_cons_zero, Option.some.injEq] at hi
      subst hi
      rw [Nat.add_zero, upd_same, Bool.true_and, nwF_congr (D := upd D k true) (D' := D) L (k + 1) (fun j e' _ _ => upd_ne _ _ (by omega))]
      cases inL e.nw d <;> cases D k <;> cases nwF D d L (k + 1) <;> rfl
    | succ i =>
      have hk : upd D (k + (i + 1)) true k = D k := upd_ne _ _ (by omega)
      rw [hk, show k + (i + 1) = k + 1 + i by omega, ih (k + 1) (by simpa using hi)]
      rw [Bool.or_assoc]

/-! part SxO -/
def LE.V (e : LE) : List Nat := e.x.names ++ huV e.hu
def disj (a b : List Nat) : Bool := a.all fun x => !inL b x
theorem disj_iff {a b : List Nat} (h : disj a b = true) : ∀ x ∈ a, x ∉ b := by
  unfold disj at h
  rw [List.all_eq_true] at h
  intro x hx hb
  have := h x hx
  rw [inL_iff.2 hb] at this
  cases this

def obNames : Option Ob → List Nat
  | none => []
  | some o => o.names

/-- neither of two operations sees the other -/
def apart (s0 : Nat → AV) (h0 : Nat → Option Ob) (a b : LE) : Bool :=
  (match a.dst with | none => true | some d => !inL b.R d && !(b.dst == some d)) && disj (huM a.hu) b.N && disj (huM a.hu) (huM b.hu) && disj a.nw (b.V ++ b.N) &&
  disj a.nw (b.R.flatMap fun t => (s0 t).names) && disj a.nw (b.N.flatMap fun c => obNames (h0 c))

def dirs (o : Oper) : List Nat := (o.after.toList.filter (fun e => Region.binds .any e)).map (·.on)
/-- each number once (else these lists double with every operation) -/
def nubN (l : List Nat) : List Nat := l.foldr (fun x r => bif inL r x then r else x :: r) []
def befs : List Oper → List (List Nat) → List (List Nat)
  | [], acc => acc
  | o :: r, acc => befs r (acc ++ [nubN ((dirs o) ++ (dirs o).flatMap fun j => (acc[j]?).getD [])])
def inB (B : List (List Nat)) (i j : Nat) : Bool := inL ((B[i]?).getD []) j

def chkB (ops : Array Oper) (B : List (List Nat)) : Bool :=
  (List.range ops.size).all fun i => match ops[i]? with
    | none => true
    | some o => (dirs o).all (fun j => Nat.blt j i) && ((B[i]?).getD []).all fun j => inL (dirs o) j || (dirs o).any fun m => inB B m j

def niOk (ops : Array Oper) (s0 : Nat → AV) (h0 : Nat → Option Ob) (L : List LE) (B : List (List Nat)) : Bool :=
  chkB ops B && L.all (fun e => (huD e.hu).all (inL e.nw) && e.nw.all (inL (huD e.hu))) &&
  (List.range L.length).all fun j => (List.range j).all fun i => match L[i]?, L[j]? with
    | some a, some b => disj b.nw a.V && (inB B j i || (apart s0 h0 a b && apart s0 h0 b a))
    | _, _ => true

structure Ni (ops : Array Oper) (s0 : Nat → AV) (h0 : Nat → Option Ob) (L : List LE) (B : List (List Nat)) : Prop where
  dir : ∀ (i : Nat) (o : Oper), ops[i]? = some o → ∀ j ∈ dirs o, j < i
  bef : ∀ (i : Nat) (o : Oper) (j : Nat), ops[i]? = some o → inB B i j = true → j ∈ dirs o ∨ ∃ m ∈ dirs o, inB B m j = true
  hu : ∀ e ∈ L, inL (huD e.hu) = inL e.nw
  ord : ∀ (i j : Nat) (a b : LE), i < j → L[i]? = some a → L[j]? = some b → ∀ x ∈ b.nw, x ∉ a.V
  un : ∀ (i j : Nat) (a b : LE), i < j → L[i]? = some a → L[j]? = some b → inB B j i = false → apart s0 h0 a b = true ∧ apart s0 h0 b a = true

theorem niOk_spec {ops : Array Oper} {s0 : Nat → AV} {h0 : Nat → Option Ob} {L : List LE} {B : List (List Nat)} (hlen : L.length = ops.size) (h : niOk ops s0 h0 L B = true) : Ni ops s0 h0 L B := by
  unfold niOk at h
  obtain ⟨h12, h3⟩ := Bool.and_eq_true_iff.1 h
  obtain ⟨h1, h2⟩ := Bool.and_eq_true_iff.1 h12
  unfold chkB at h1
  rw [List.all_eq_true] at h1 h2 h3
  have hc : ∀ i o, ops[i]? = some o → (dirs o).all (fun j => Nat.blt j i) = true ∧ ((B[i]?).getD []).all (fun j => inL (dirs o) j || (dirs o).any fun m => inB B m j) = true := by
    intro i o ho
    have := h1 i (List.mem_range.2 (Array.getElem?_eq_some_iff.1 ho).1)
    rw [ho] at this
    exact Bool.and_eq_true_iff.1 this
  have hp : ∀ i j (a b : LE), i < j → L[i]? = some a → L[j]? = some b → (disj b.nw a.V && (inB B j i || (apart s0 h0 a b && apart s0 h0 b a))) = true := by
    intro i j a b hij ha hb
    have q1 := h3 j (List.mem_range.2 (List.getElem?_eq_some_iff.1 hb).1)
    rw [List.all_eq_true] at q1
    have q2 := q1 i (List.mem_range.2 hij)
    rw [ha, hb] at q2
    exact q2
  refine ⟨?_, ?_, ?_, ?_, ?_⟩
  · intro i o ho j hj
    have := (hc i o ho).1
    rw [List.all_eq_true] at this
    exact Nat.le_of_ble_eq_true (this j hj)
  · intro i o j ho hj
    have := (hc i o ho).2
    rw [List.all_eq_true] at this
    rcases Bool.or_eq_true_iff.1 (this j (inL_iff.1 hj)) with q | q
    · exact .inl (inL_iff.1 q)
    · rw [List.any_eq_true] at q
      exact .inr q
  · intro e he
    obtain ⟨q1, q2⟩ := Bool.and_eq_true_iff.1 (h2 e he)
    rw [List.all_eq_true] at q1 q2
    funext b
    rw [Bool.eq_iff_iff]
    constructor
    · intro hb; exact q1 b (inL_iff.1 hb)
    · intro hb; exact q2 b (inL_iff.1 hb)
  · intro i j a b hij ha hb
    exact disj_iff (Bool.and_eq_true_iff.1 (hp i j a b hij ha hb)).1
  · intro i j a b hij ha hb hu
    have := (Bool.and_eq_true_iff.1 (hp i j a b hij ha hb)).2
    rw [hu, Bool.false_or] at this
    exact Bool.and_eq_true_iff.1 this

structure Apart (s0 : Nat → AV) (h0 : Nat → Option Ob) (a b : LE) : Prop where
  d : ∀ d, a.dst = some d → d ∉ b.R ∧ b.dst ≠ some d
  mn : ∀ c ∈ huM a.hu, c ∉ b.N
  mm : ∀ c ∈ huM a.hu, c ∉ huM b.hu
  nv : ∀ c ∈ a.nw, c ∉ b.V ∧ c ∉ b.N
  s : ∀ c ∈ a.nw, ∀ t ∈ b.R, c ∉ (s0 t).names
  h : ∀ c ∈ a.nw, ∀ q ∈ b.N, c ∉ obNames (h0 q)
theorem apart_spec {s0 : Nat → AV} {h0 : Nat → Option Ob} {a b : LE} (h : apart s0 h0 a b = true) : Apart s0 h0 a b := by
  unfold apart at h
  obtain ⟨h, h6⟩ := Bool.and_eq_true_iff.1 h
  obtain ⟨h, h5⟩ := Bool.and_eq_true_iff.1 h
  obtain ⟨h, h4⟩ := Bool.and_eq_true_iff.1 h
  obtain ⟨h, h3⟩ := Bool.and_eq_true_iff.1 h
  obtain ⟨h1, h2⟩ := Bool.and_eq_true_iff.1 h
  refine ⟨?_, disj_iff h2, disj_iff h3, ?_, ?_, ?_⟩
  · intro d hd
    rw [hd] at h1
    obtain ⟨q1, q2⟩ := Bool.and_eq_true_iff.1 h1
    refine ⟨fun hh => ?_, fun hh => ?_⟩
    · rw [inL_iff.2 hh] at q1; cases q1
    · rw [hh] at q2; simp at q2
  · intro c hc
    have := disj_iff h4 c hc
    rw [List.mem_append, not_or] at this
    exact this
  · intro c hc t ht hn
    exact disj_iff h5 c hc (List.mem_flatMap.2 ⟨t, ht, hn⟩)
  · intro c hc t ht hn
    exact disj_iff h6 c hc (List.mem_flatMap.2 ⟨t, ht, hn⟩)

theorem scrubP_id {x : AV} {nw : List Nat} (h : ∀ c ∈ nw, c ∉ x.names) : x.scrubP (inL nw) = x := by
  rw [AV.scrubP_same (P' := fun _ => false) (fun b hb => inL_false.2 fun hh => h b hh hb), AV.scrubP_none]
theorem ob_scrubP_id {o : Option Ob} {nw : List Nat} (h : ∀ c ∈ nw, c ∉ obNames o) : o.map (Ob.scrubP (inL nw)) = o := by
  cases o with
  | none => rfl
  | some x =>
    rw [Option.map_some, Ob.scrubP_same (P' := fun _ => false) (fun b hb => inL_false.2 fun hh => h b hh hb), Ob.scrubP_none]

theorem setS_eq (dst : Option Nat) (x : AV) (s : Nat → AV) (t : Nat) : setS dst x s t = bif dst == some t then x else s t := by
  cases dst with
  | none => rfl
  | some d =>
    show upd s d x t = _
    by_cases h : t = d
    · subst h; rw [upd_same]; simp
    · rw [upd_ne _ _ h]
      have : (some d == some t) = false := by simpa using Ne.symm h
      rw [this]; rfl

/-- the set grows by an operation that has not come up -/
theorem SD_add {L : List LE} {s : Nat → AV} {h : Nat → Option Ob} {D : Nat → Bool} {i : Nat} {e : LE} (hi : L[i]? = some e) (hD : D i = false) (hu : inL (huD e.hu) = inL e.nw)
    (hV : ∀ j (f : LE), L[j]? = some f → D j = true → ∀ x ∈ e.nw, x ∉ f.V) (hl : ∀ j (f : LE), L[j]? = some f → D j = true → i < j → (∀ t, e.dst = some t → f.dst ≠ some t) ∧ ∀ c ∈ huM e.hu, c ∉ huM f.hu) :
    SD L s (upd D i true) = setS e.dst e.x (scrS e.nw (SD L s D)) ∧ HD L h (upd D i true) = happ e.hu (HD L h D) := by
  have hnw : (fun d => nwF (upd D i true) d L 0) = fun d => nwF D d L 0 || inL e.nw d := by
    funext d
    have := nwF_add (D := D) (d := d) L 0 hi
    rwa [Nat.zero_add] at this
  constructor
  · funext t
    rw [setS_eq, scrS_eq]
    have := slotF_add (D := D) (t := t) (P := inL e.nw) L 0 ((s t).scrubP fun d => nwF D d L 0) ((s t).scrubP fun d => nwF (upd D i true) d L 0) hi (by rwa [Nat.zero_add])
      (fun j f hf hj _ => scrubP_id fun c hc hn => hV j f hf (by rwa [Nat.zero_add] at hj) c hc (List.mem_append.2 (.inl hn)))
      (fun j f hf hj hij hd => (hl j f hf (by rwa [Nat.zero_add] at hj) hij).1 t hd)
      (fun _ => by rw [hnw, AV.scrubP_scrubP])
    rw [Nat.zero_add] at this
    exact this
  · funext b
    have := heapF_add (D := D) (b := b) (P := inL e.nw) L 0 ((h b).map (Ob.scrubP fun d => nwF D d L 0)) ((h b).map (Ob.scrubP fun d => nwF (upd D i true) d L 0)) hi (by rwa [Nat.zero_add])
      (fun j f hf hj hb => ob_scrubP_id fun c hc hn => by
        cases ho : happ f.hu (fun _ => none) b with
        | none => rw [ho] at hn; cases hn
        | some o => rw [ho] at hn; exact hV j f hf (by rwa [Nat.zero_add] at hj) c hc (List.mem_append.2 (.inr (happ_names f.hu b o ho c hn))))
      (fun j f hf hj hij hb => (hl j f hf (by rwa [Nat.zero_add] at hj) hij).2 b hb)
      (fun _ => by
        rw [hnw, Option.map_map]
        congr 1
        funext o
        exact (Ob.scrubP_scrubP _ _ o).symm)
    rw [Nat.zero_add] at this
    show heapF (upd D i true) b L 0 ((h b).map (Ob.scrubP fun d => nwF (upd D i true) d L 0)) = _
    rw [this]
    cases hb : inL (huM e.hu) b
    · rw [happ_out e.hu (HD L h D) b (inL_false.1 hb), hu]; rfl
    · rw [happ_in e.hu (HD L h D) (fun _ => none) b (inL_iff.1 hb)]; rfl

def ltD (i : Nat) : Nat → Bool := fun j => Nat.blt j i
theorem ltD_succ (i : Nat) : ltD (i + 1) = upd (ltD i) i true := by
  funext j
  unfold ltD
  by_cases h : j = i
  · subst h; rw [upd_same]; exact Nat.ble_eq_true_of_le (Nat.le_refl _)
  · rw [upd_ne _ _ h, Bool.eq_iff_iff]
    constructor
    · intro hh; have := Nat.le_of_ble_eq_true hh; exact Nat.ble_eq_true_of_le (show j + 1 ≤ i by omega)
    · intro hh; have := Nat.le_of_ble_eq_true hh; exact Nat.ble_eq_true_of_le (show j + 1 ≤ i + 1 by omega)

theorem SD_none (L : List LE) (s : Nat → AV) : SD L s (fun _ => false) = s := by
  funext t
  have h1 : ∀ d, nwF (fun _ => false) d L 0 = false := by
    intro d
    have : ∀ (L : List LE) (k : Nat), nwF (fun _ => false) d L k = false := by
      intro L
      induction L with
      | nil => intro k; rfl
      | cons e L ih => intro k; unfold nwF; rw [ih]; rfl
    exact this L 0
  unfold SD
  rw [show (fun d => nwF (fun _ => false) d L 0) = fun _ => false from funext h1, AV.scrubP_none]
  have : ∀ (L : List LE) (k : Nat) (x : AV), slotF (fun _ => false) t L k x = x := by
    intro L
    induction L with
    | nil => intro k x; rfl
    | cons e L ih => intro k x; unfold slotF; rw [Bool.false_and, cond_false]; exact ih _ _
  exact this L 0 _
theorem HD_none (L : List LE) (h : Nat → Option Ob) : HD L h (fun _ => false) = h := by
  funext t
  have h1 : ∀ d, nwF (fun _ => false) d L 0 = false := by
    intro d
    have : ∀ (L : List LE) (k : Nat), nwF (fun _ => false) d L k = false := by
      intro L
      induction L with
      | nil => intro k; rfl
      | cons e L ih => intro k; unfold nwF; rw [ih]; rfl
    exact this L 0
  unfold HD
  rw [show (fun d => nwF (fun _ => false) d L 0) = fun _ => false from funext h1]
  have h2 : (h t).map (Ob.scrubP fun _ => false) = h t := by
    cases h t with
    | none => rfl
    | some o => rw [Option.map_some, Ob.scrubP_none]
  rw [h2]
  have : ∀ (L : List LE) (k : Nat) (x : Option Ob), heapF (fun _ => false) t L k x = x := by
    intro L
    induction L with
    | nil => intro k x; rfl
    | cons e L ih => intro k x; unfold heapF; rw [Bool.false_and, cond_false]; exact ih _ _
  exact this L 0 _

/-- the states of the order of the text -/
theorem Chain.states {E : Env} {n : Nat} {ops : Array Oper} {s0 : Nat → AV} {h0 : Nat → Option Ob} {B : List (List Nat)} {L : List LE} (hN : Ni ops s0 h0 L B) {s' : Nat → AV} {h' : Nat → Option Ob} :
    ∀ (l : List Oper) (es : List LE) (i : Nat), (∀ j, L[i + j]? = es[j]?) → Chain E n ops l es (SD L s0 (ltD i)) (HD L h0 (ltD i)) s' h' →
      s' = SD L s0 (ltD (i + es.length)) ∧ h' = HD L h0 (ltD (i + es.length)) ∧ l.length = es.length ∧ ∀ j o (e : LE), l[j]? = some o → es[j]? = some e → Does E n ops o (SD L s0 (ltD (i + j))) (HD L h0 (ltD (i + j))) e
  | [], [], i, _, hc => ⟨hc.1, hc.2, rfl, fun j o e h => by simp at h⟩
  | o :: l, e :: es, i, hL, hc => by
    obtain ⟨h1, h2⟩ := hc
    have hi : L[i]? = some e := by have := hL 0; simpa using this
    have hD : ltD i i = false := by unfold ltD; rw [Bool.eq_false_iff]; intro hh; have := Nat.le_of_ble_eq_true hh; omega
    have hlt : ∀ j, ltD i j = true → j < i := fun j hj => Nat.le_of_ble_eq_true hj
    obtain ⟨q1, q2⟩ := SD_add (s := s0) (h := h0) hi hD (hN.hu e (List.mem_of_getElem? hi)) (fun j f hf hj => hN.ord j i f e (hlt j hj) hf hi) (fun j f hf hj hij => by have := hlt j hj; omega)
    rw [← ltD_succ] at q1 q2
    rw [← q1, ← q2] at h2
    obtain ⟨r1, r2, r3, r4⟩ := Chain.states hN l es (i + 1) (fun j => by have := hL (j + 1); rw [show i + (j + 1) = i + 1 + j by omega] at this; simpa using this) h2
    rw [show i + (e :: es).length = i + 1 + es.length by simp; omega]
    refine ⟨r1, r2, by simp [r3], fun j o' e' ho' he' => ?_⟩
    cases j with
    | zero => simp at ho' he'; subst ho'; subst he'; exact h1
    | succ j => rw [show i + (j + 1) = i + 1 + j by omega]; exact r4 j o' e' (by simpa using ho') (by simpa using he')
  | [], _ :: _, i, _, hc => hc.elim
  | _ :: _, [], i, _, hc => hc.elim

/-! part SxQ -/
def SpLoc (s : SpecF) : Prop := ∀ d args hp hp', (∀ b ∈ args.flatMap AV.names, hp' b = hp b) → s d args hp' = s d args hp

theorem one_names {x : AV} {l : Lf} (h : x.one = some l) : l.names = x.names := by
  rw [AV.one_eq h]; simp [AV.names]

theorem cLoad_local {i : TI} {hp hp' : Nat → Option Ob} {l : Lf} (h : ∀ b ∈ l.names, hp' b = hp b) : cLoad i hp' l = cLoad i hp l := by
  cases l with
  | p b off => simp only [cLoad, h b (by simp [Lf.names])]
  | o b => rfl
  | pe b n s k => simp only [cLoad, h b (by simp [Lf.names])]
  | px b n s k => simp only [cLoad, h b (by simp [Lf.names])]
  | _ => rfl
theorem cStore_local {i : TI} {hp hp' : Nat → Option Ob} {y : AV} {l : Lf} (h : ∀ b ∈ l.names, hp' b = hp b) : cStore i hp' y l = cStore i hp y l := by
  cases l with
  | p b off => simp only [cStore, h b (by simp [Lf.names])]
  | o b => rfl
  | pe b n s k => simp only [cStore, h b (by simp [Lf.names])]
  | px b n s k => simp only [cStore, h b (by simp [Lf.names])]
  | _ => rfl
theorem cIndexAddr_local {cl : Bool} {i : TI} {n : Nat} {hp hp' : Nat → Option Ob} {ix : Lf} {l : Lf} (h : ∀ b ∈ l.names, hp' b = hp b) : cIndexAddr cl i n hp' ix l = cIndexAddr cl i n hp ix l := by
  cases l with
  | p b off => simp only [cIndexAddr]
  | o b => simp only [cIndexAddr, h b (by simp [Lf.names])]
  | pe b n s k => simp only [cIndexAddr]
  | d t x => cases t <;> simp only [cIndexAddr]
  | dp t x => cases t <;> simp only [cIndexAddr]
  | _ => simp only [cIndexAddr]
theorem asList_local {t : Ty} {hp hp' : Nat → Option Ob} {l : Lf} (h : ∀ b ∈ l.names, hp' b = hp b) : asList hp' t l = asList hp t l := by
  cases l with
  | p b off => rfl
  | o b => simp only [asList, h b (by simp [Lf.names])]
  | vw b lo n s => simp only [asList, h b (by simp [Lf.names])]
  | pe b n s k => rfl
  | _ => rfl
theorem ownOf_local {t : Ty} {d : Nat} {hp hp' : Nat → Option Ob} {l : Lf} (h : ∀ b ∈ l.names, hp' b = hp b) : ownOf hp' t d l = ownOf hp t d l := by
  cases l with
  | p b off => rfl
  | o b => simp only [ownOf, h b (by simp [Lf.names])]
  | vw b lo n s => simp only [ownOf, h b (by simp [Lf.names])]
  | pe b n s k => rfl
  | _ => rfl
theorem openE_local {t : Ty} {hp hp' : Nat → Option Ob} {l : Lf} (h : ∀ b ∈ l.names, hp' b = hp b) : openE hp' t l = openE hp t l := by
  cases l with
  | o b => simp only [openE, h b (by simp [Lf.names])]
  | _ => rfl
theorem capN_local {ev ev' : Operand → AV} : ∀ {xs : List Operand}, (∀ x ∈ xs, ev' x = ev x) → capN ev' xs = capN ev xs
  | [], _ => rfl
  | x :: xs, h => by
    unfold capN
    rw [h x (by simp), capN_local (fun y hy => h y (by simp [hy]))]
theorem rowE_local {E : TypeId} {hp hp' : Nat → Option Ob} {l : Lf} (h : ∀ b ∈ l.names, hp' b = hp b) : rowE hp' l E = rowE hp l E := by
  cases l with
  | o b => simp only [rowE, h b (by simp [Lf.names])]
  | vw b lo n s => simp only [rowE, h b (by simp [Lf.names])]
  | _ => rfl
theorem cLen_local {i : TI} {hp hp' : Nat → Option Ob} {x : AV} (h : ∀ b ∈ x.names, hp' b = hp b) : cLen i hp' x = cLen i hp x := by
  unfold cLen
  split
  · rfl
  · split
    · rename_i hone; simp only [hone]
    · rename_i hone; simp only [hone]
    · rename_i b hone
      simp only [hone, h b (by rw [← one_names hone]; simp [Lf.names])]
    · rfl
  · rfl
  · rfl

theorem stepA_local {E : Env} (hs : ∀ f s, E.sp f = some s → SpLoc s) {o : Oper} {d : Nat} {ev ev' : Operand → AV} {hp hp' : Nat → Option Ob}
    (h1 : ∀ x ∈ o.op.operands.toList, ev' x = ev x) (h2 : ∀ x ∈ o.op.operands.toList, ∀ b ∈ (ev x).names, hp' b = hp b) : stepA E o d ev' hp' = stepA E o d ev hp := by
  have hn : ∀ x ∈ o.op.operands.toList, ∀ l, (ev x).one = some l → ∀ b ∈ l.names, hp' b = hp b := fun x hx l hl b hb => h2 x hx b (by rw [← one_names hl]; exact hb)
  unfold stepA
  cases ho : o.op with
  | move x => rw [ho] at h1; simp only [h1 x (by simp [Op.operands])]
  | assign x => rw [ho] at h1; simp only [h1 x (by simp [Op.operands])]
  | pick c x y => rw [ho] at h1; simp only [h1 c (by simp [Op.operands]), h1 x (by simp [Op.operands]), h1 y (by simp [Op.operands])]
  | nilCheck x => rw [ho] at h1; simp only [h1 x (by simp [Op.operands])]
  | fieldAddr s x f => rw [ho] at h1; simp only [h1 x (by simp [Op.operands])]
  | load t x =>
    rw [ho] at h1 hn
    simp only [h1 x (by simp [Op.operands])]
    cases hl : (ev x).one with
    | none => cases E.tl t <;> rfl
    | some l =>
      cases E.tl t with
      | none => rfl
      | some i => simp only [cLoad_local (i := i) (hn x (by simp [Op.operands]) l hl)]
  | store t x y =>
    rw [ho] at h1 hn
    simp only [h1 x (by simp [Op.operands]), h1 y (by simp [Op.operands])]
    cases hl : (ev x).one with
    | none => cases E.tl t <;> rfl
    | some l =>
      cases E.tl t with
      | none => rfl
      | some i => simp only [cStore_local (i := i) (y := ev y) (hn x (by simp [Op.operands]) l hl)]
  | alloc T => rfl
  | box T x => rw [ho] at h1; simp only [h1 x (by simp [Op.operands])]
  | build T ps =>
    rw [ho] at h1
    have : (ps.toList.map fun p => (p.1, ev' p.2)) = ps.toList.map fun p => (p.1, ev p.2) := List.map_congr_left fun p hp => by rw [h1 p.2 (by simp only [Op.operands]; exact List.mem_map.2 ⟨p, hp, rfl⟩)]
    simp only [this]
  | buildSlice T n ps =>
    rw [ho] at h1
    have : (ps.toList.map fun p => (p.1, ev' p.2)) = ps.toList.map fun p => (p.1, ev p.2) := List.map_congr_left fun p hp => by rw [h1 p.2 (by simp only [Op.operands]; exact List.mem_map.2 ⟨p, hp, rfl⟩)]
    simp only [this]
  | makeSlice T x y => rw [ho] at h1; simp only [h1 x (by simp [Op.operands]), h1 y (by simp [Op.operands])]
  | binOp op t x y u => rw [ho] at h1; simp only [h1 x (by simp [Op.operands]), h1 y (by simp [Op.operands])]
  | unOp op t x => rw [ho] at h1; simp only [h1 x (by simp [Op.operands])]
  | indexAddr T x y =>
    rw [ho] at h1 hn h2
    simp only [h1 x (by simp [Op.operands]), h1 y (by simp [Op.operands])]
    cases hl : (ev x).one with
    | none => cases E.tl T <;> rfl
    | some l =>
      cases hy : (ev y).one with
      | none => cases E.tl T <;> rfl
      | some ly =>
        cases E.tl T with
        | none => rfl
        | some i =>
          have hq := hn x (by simp [Op.operands]) l hl
          have hc : ∀ c n, cIndexAddr c i n hp' ly l = cIndexAddr c i n hp ly l := fun c n => cIndexAddr_local hq
          cases l with
          | o b => simp only [hc, hq b (by simp [Lf.names])]
          | d t x => cases t <;> simp only [hc]
          | _ => simp only [hc]
  | index T x y => rw [ho] at h1; simp only [h1 x (by simp [Op.operands]), h1 y (by simp [Op.operands])]
  | convert a b x => rw [ho] at h1; simp only [h1 x (by simp [Op.operands])]
  | slice T x lo hi mx =>
    rw [ho] at h1 hn
    cases mx with
    | some _ => rfl
    | none =>
      have e1 : cOpt ev' lo = cOpt ev lo := by
        cases lo with
        | none => rfl
        | some y => simp only [cOpt, h1 y (by simp [Op.operands])]
      have e2 : cOpt ev' hi = cOpt ev hi := by
        cases hi with
        | none => rfl
        | some y => simp only [cOpt, h1 y (by simp [Op.operands])]
      simp only [h1 x (by simp [Op.operands]), e1, e2]
      generalize cOpt ev lo = clo
      generalize cOpt ev hi = chi
      cases hl : (ev x).one with
      | none => cases E.tl T <;> rfl
      | some l =>
        cases E.tl T with
        | none => rfl
        | some i =>
          cases clo with
          | none => rfl
          | some llo =>
            cases chi with
            | none => rfl
            | some lhi =>
              cases l with
              | o b =>
                have hq := hn x (by simp [Op.operands]) _ hl b (by simp [Lf.names])
                have hc : ∀ p q, cView hp' p q (.o b) = cView hp p q (.o b) := fun p q => by simp only [cView, hq]
                obtain ⟨z1, z2, z3, kd, z5, z6⟩ := i
                cases kd with
                | slice e => dsimp only; rw [hq]; simp only [hc]
                | _ => rfl
              | d t x => obtain ⟨z1, z2, z3, kd, z5, z6⟩ := i; cases t <;> cases kd <;> rfl
              | _ => obtain ⟨z1, z2, z3, kd, z5, z6⟩ := i; cases kd <;> rfl
  | field s x f => rw [ho] at h1; simp only [h1 x (by simp [Op.operands])]
  | extract x k => rw [ho] at h1; simp only [h1 x (by simp [Op.operands])]
  | call c =>
    rw [ho] at h1 hn h2
    obtain ⟨cal, args, ts⟩ := c
    cases cal with
    | invoke r m => rfl
    | builtin b =>
      have ha : ∀ x ∈ args.toList, ev' x = ev x := fun x hx => h1 x (by simp [Op.operands, Call.operands]; simpa using hx)
      have hb : ∀ x ∈ args.toList, ∀ c ∈ (ev x).names, hp' c = hp c := fun x hx => h2 x (by simp [Op.operands, Call.operands]; simpa using hx)
      cases b with
      | len =>
        dsimp only
        cases hargs : args.toList with
        | nil => rfl
        | cons x r =>
          cases r with
          | cons y r => rfl
          | nil =>
            cases hts : ts.toList with
            | nil => rfl
            | cons T r => cases r with
              | cons _ _ => rfl
              | nil =>
                have e1 := ha x (by rw [hargs]; simp)
                have h3 : ∀ i, cLen i hp' (ev x) = cLen i hp (ev x) := fun i => cLen_local (hb x (by rw [hargs]; simp))
                dsimp only
                simp only [e1, h3]
      | max =>
        dsimp only
        cases hargs : args.toList with
        | nil => rfl
        | cons s r =>
          cases r with
          | nil => rfl
          | cons x r =>
            cases r with
            | cons y r => rfl
            | nil =>
              dsimp only
              have e1 := ha s (by rw [hargs]; simp)
              have e2 := ha x (by rw [hargs]; simp)
              simp only [e1, e2]
      | min =>
        dsimp only
        cases hargs : args.toList with
        | nil => rfl
        | cons s r =>
          cases r with
          | nil => rfl
          | cons x r =>
            cases r with
            | cons y r => rfl
            | nil =>
              dsimp only
              have e1 := ha s (by rw [hargs]; simp)
              have e2 := ha x (by rw [hargs]; simp)
              simp only [e1, e2]
      | append =>
        dsimp only
        cases hargs : args.toList with
        | nil => rfl
        | cons s r =>
          cases r with
          | nil => rfl
          | cons x r =>
            cases r with
            | cons y r => rfl
            | nil =>
              cases hts : ts.toList with
              | nil => rfl
              | cons T r => cases r with
                | nil => rfl
                | cons T' r => cases r with
                  | cons _ _ => rfl
                  | nil =>
                    dsimp only
                    have e1 := ha s (by rw [hargs]; simp)
                    have e2 := ha x (by rw [hargs]; simp)
                    simp only [e1, e2]
                    cases hbq : Nat.beq T T'
                    · rfl
                    · skip
                      cases hs1 : (ev s).one with
                      | none => cases E.tl T <;> rfl
                      | some a =>
                        cases hx1 : (ev x).one with
                        | none => cases E.tl T <;> rfl
                        | some c =>
                          have q1 : ∀ b ∈ a.names, hp' b = hp b := fun b hbb => hb s (by rw [hargs]; simp) b (by rw [← one_names hs1]; exact hbb)
                          have q2 : ∀ b ∈ c.names, hp' b = hp b := fun b hbb => hb x (by rw [hargs]; simp) b (by rw [← one_names hx1]; exact hbb)
                          have m1 : ∀ t, ownOf hp' t d a = ownOf hp t d a := fun t => ownOf_local q1
                          have m2 : ∀ e, rowE hp' a e = rowE hp a e := fun e => rowE_local q1
                          have m3 : ∀ t, asList hp' t c = asList hp t c := fun t => asList_local q2
                          have m4 : ∀ t, openE hp' t c = openE hp t c := fun t => openE_local q2
                          first | (simp only [m1, m2, m3, m4]; done) | (cases E.tl T <;> simp only [m1, m2, m3, m4])
      | _ => rfl
    | value g =>
      have hg := h1 g (by simp [Op.operands, Call.operands])
      have hg2 := h2 g (by simp [Op.operands, Call.operands])
      have ha : args.toList.map ev' = args.toList.map ev := List.map_congr_left fun x hx => h1 x (by simp [Op.operands, Call.operands]; exact .inr (by simpa using hx))
      have hb : ∀ x ∈ args.toList, ∀ c ∈ (ev x).names, hp' c = hp c := fun x hx => h2 x (by simp [Op.operands, Call.operands]; exact .inr (by simpa using hx))
      have hc : callee ev' g = callee ev g := by simp only [callee, hg]
      simp only [hc, ha]
      cases hcal : callee ev g with
      | none => rfl
      | some fc =>
        obtain ⟨f, cs⟩ := fc
        cases hsp : E.sp f with
        | none => simp only [hsp]
        | some s =>
          simp only [hsp]
          refine hs f s hsp d _ hp hp' fun b hbm => ?_
          rw [List.flatMap_append, List.mem_append] at hbm
          rcases hbm with hbm | hbm
          · obtain ⟨x, hx, hxb⟩ := List.mem_flatMap.1 hbm
            obtain ⟨y, hy, rfl⟩ := List.mem_map.1 hx
            exact hb y hy b hxb
          · unfold callee at hcal
            split at hcal
            · rename_i f' c hone
              cases hcal
              obtain ⟨x, hx, hxb⟩ := List.mem_flatMap.1 hbm
              obtain ⟨y, hy, rfl⟩ := List.mem_map.1 hx
              have : b = y := by simpa [AV.names, Lf.names] using hxb
              subst this
              exact hg2 b (by rw [← one_names hone]; exact hy)
            · cases hcal
  | makeFunc fn first captured =>
    rw [ho] at h1
    cases fn with
    | func f =>
      dsimp only
      rw [capN_local (ev := ev) (ev' := ev') fun x hx => h1 x (by simp [Op.operands]; exact .inr (by simpa using hx))]
    | _ => rfl
  | _ => rfl

theorem stepA_free {E : Env} {o : Oper} {d : Nat} {ev ev' : Operand → AV} {hp hp' : Nat → Option Ob} (hf : heapFree o.op = true)
    (h1 : ∀ x ∈ o.op.operands.toList, ev' x = ev x) : stepA E o d ev' hp' = stepA E o d ev hp := by
  unfold stepA
  cases ho : o.op with
  | move x => rw [ho] at h1; simp only [h1 x (by simp [Op.operands])]
  | assign x => rw [ho] at h1; simp only [h1 x (by simp [Op.operands])]
  | nilCheck x => rw [ho] at h1; simp only [h1 x (by simp [Op.operands])]
  | fieldAddr s x f => rw [ho] at h1; simp only [h1 x (by simp [Op.operands])]
  | _ => simp [heapFree, ho] at hf
theorem Does.local {E : Env} (hs : ∀ f s, E.sp f = some s → SpLoc s) {n : Nat} {ops : Array Oper} {o : Oper} {s s' : Nat → AV} {h h' : Nat → Option Ob} {e : LE} (hd : Does E n ops o s h e) (h1 : ∀ t ∈ e.R, s' t = s t) (h2 : ∀ b ∈ e.N, h' b = h b) : Does E n ops o s' h' e := by
  obtain ⟨q1, q2, q3, q4, q5⟩ := hd
  have hev : ∀ x ∈ o.op.operands.toList, evA s' x = evA s x := by
    intro x hx
    cases x with
    | tmp t =>
      have : s' t = s t := by
       refine h1 t ?_
       rw [q3]
       refine List.mem_append.2 (.inl (List.mem_filterMap.2 ⟨.tmp t, hx, rfl⟩))
      show sg s' t = sg s t
      unfold sg
      rw [this]
    | _ => rfl
  have hmap : o.op.operands.toList.map (evA s') = o.op.operands.toList.map (evA s) := List.map_congr_left hev
  have hg : gstat ops o s' = gstat ops o s := by
    unfold gstat
    cases hgd : o.guard with
    | none => rfl
    | some jw =>
      obtain ⟨j, want⟩ := jw
      cases hj : (ops[j]?).bind (·.dst) with
      | none => simp only [hj]
      | some t =>
        have : s' t = s t := h1 t (by rw [q3]; refine List.mem_append.2 (.inr ?_); simp only [gslot, hgd, hj]; simp)
        simp only [hj, sg, this]
  have hst : stepA E o (E.nb + o.dst.getD 0) (evA s') h' = stepA E o (E.nb + o.dst.getD 0) (evA s) h := by
    cases hf : heapFree o.op with
    | true => exact stepA_free hf hev
    | false => exact stepA_local hs hev fun x hx b hb => h2 b (by rw [q4, opN, hf]; exact List.mem_flatMap.2 ⟨evA s x, List.mem_map.2 ⟨x, hx, rfl⟩, hb⟩)
  exact ⟨q1, q2, q3, by rw [hmap]; exact q4, by rw [hg, hst]; exact q5⟩

/-- the operations that have come up -/
def lD (listed : Array Bool) : Nat → Bool := fun i => (listed[i]?).getD false

theorem count_set : ∀ (l : List Bool) (i : Nat), l[i]? = some false → (l.set i true).count false + 1 = l.count false
  | b :: l, 0, h => by simp at h; subst h; simp
  | b :: l, i + 1, h => by
    have := count_set l i (by simpa using h)
    rw [List.set_cons_succ, List.count_cons, List.count_cons]
    omega

theorem drawn_any {P : Program} {E : Env} (hE : E.Ok P) (hs : ∀ f s, E.sp f = some s → SpLoc s) {n : Nat} {ops : Array Oper} {s0 sN : Nat → AV} {h0 hN : Nat → Option Ob} {L : List LE} {B : List (List Nat)} (hc : Chain E n ops ops.toList L s0 h0 sN hN) (hB : niOk ops s0 h0 L B = true)
    {F : Fr} {Q : Exit → Act → World → Prop} (hQ : ∀ G a w, Rep F n sN hN G a w → Q .normal a w) :
    ∀ (fuel : Nat) (listed : Array Bool) (G : Gh) (a : Act) (w : World), listed.size = ops.size → listed.toList.count false ≤ fuel → (∀ i, lD listed i = true → ∀ j, inB B i j = true → lD listed j = true) →
      Rep F n (SD L s0 (lD listed)) (HD L h0 (lD listed)) G a w → wpAny P .any ops Q fuel listed a w := by
  have hlen : ops.toList.length = L.length := by
    have : ∀ (l : List Oper) (es : List LE) (s : Nat → AV) (h : Nat → Option Ob), Chain E n ops l es s h sN hN → l.length = es.length := by
      intro l
      induction l with
      | nil => intro es s h hh; cases es with
        | nil => rfl
        | cons e es => exact hh.elim
      | cons o l ih => intro es s h hh; cases es with
        | nil => exact hh.elim
        | cons e es => simp [ih es _ _ hh.2]
    exact this _ _ _ _ hc
  have hlen' : L.length = ops.size := by rw [← hlen, Array.length_toList]
  have hNi := niOk_spec hlen' hB
  have hz : ltD 0 = fun _ => false := by
    funext j
    unfold ltD
    rw [Bool.eq_false_iff]
    intro hh
    have := Nat.le_of_ble_eq_true hh
    omega
  obtain ⟨e1, e2, _, hdoes⟩ := Chain.states hNi ops.toList L 0 (fun j => by rw [Nat.zero_add]) (by rw [hz, SD_none, HD_none]; exact hc)
  rw [Nat.zero_add] at e1 e2
  have hall : ∀ (listed : Array Bool), listed.size = ops.size → Region.ready .any ops listed = [] → (SD L s0 (lD listed) = sN ∧ HD L h0 (lD listed) = hN) := by
    intro listed hsz hr
    have hD : ∀ i, i < ops.size → lD listed i = true := by
      intro i
      induction i using Nat.strongRecOn with
      | _ i ih =>
        intro hi
        cases hl : lD listed i
        · exfalso
          have ho : ops[i]? = some ops[i] := Array.getElem?_eq_getElem hi
          have hmem : i ∈ Region.ready .any ops listed := by
            rw [mem_ready]
            refine ⟨?_, ops[i], ho, fun e he hb => ?_⟩
            · unfold lD at hl
              rw [Array.getD_eq_getD_getElem?]
              have : i < listed.size := by rw [hsz]; exact hi
              rw [Array.getElem?_eq_getElem this] at hl ⊢
              exact hl
            · have hdir : e.on ∈ dirs ops[i] := List.mem_map.2 ⟨e, List.mem_filter.2 ⟨by simpa using he, hb⟩, rfl⟩
              have hlt := hNi.dir i _ ho _ hdir
              have := ih e.on hlt (Nat.lt_trans hlt hi)
              unfold lD at this
              rw [Array.getD_eq_getD_getElem?]
              exact this
          rw [hr] at hmem
          cases hmem
        · rfl
    constructor
    · rw [e1]
      funext t
      unfold SD
      have hn : (fun d => nwF (lD listed) d L 0) = fun d => nwF (ltD L.length) d L 0 := by
        funext d
        refine nwF_congr L 0 fun j e he _ => ?_
        have hj := (List.getElem?_eq_some_iff.1 he).1
        rw [Nat.zero_add, hD j (by omega)]
        exact (Nat.ble_eq_true_of_le hj).symm
      rw [hn]
      refine slotF_congr L 0 _ fun j e he _ => ?_
      have hj := (List.getElem?_eq_some_iff.1 he).1
      rw [Nat.zero_add, hD j (by omega)]
      exact (Nat.ble_eq_true_of_le hj).symm
    · rw [e2]
      funext t
      unfold HD
      have hn : (fun d => nwF (lD listed) d L 0) = fun d => nwF (ltD L.length) d L 0 := by
        funext d
        refine nwF_congr L 0 fun j e he _ => ?_
        have hj := (List.getElem?_eq_some_iff.1 he).1
        rw [Nat.zero_add, hD j (by omega)]
        exact (Nat.ble_eq_true_of_le hj).symm
      rw [hn]
      refine heapF_congr L 0 _ fun j e he _ => ?_
      have hj := (List.getElem?_eq_some_iff.1 he).1
      rw [Nat.zero_add, hD j (by omega)]
      exact (Nat.ble_eq_true_of_le hj).symm
  intro fuel
  induction fuel with
  | zero =>
    intro listed G a w hsz hcnt hcl hrep
    have hr : Region.ready .any ops listed = [] := by
      rw [List.eq_nil_iff_forall_not_mem]
      intro i hi
      obtain ⟨h1, o, ho, _⟩ := mem_ready.1 hi
      have hlt : i < listed.size := by rw [hsz]; exact (Array.getElem?_eq_some_iff.1 ho).1
      rw [Array.getD_eq_getD_getElem?, Array.getElem?_eq_getElem hlt] at h1
      have : false ∈ listed.toList := by
        have h2 : listed[i] = false := h1
        rw [← h2]
        exact Array.getElem_mem_toList hlt
      have := List.count_pos_iff.2 this
      omega
    obtain ⟨q1, q2⟩ := hall listed hsz hr
    rw [q1, q2] at hrep
    exact ⟨hr, hQ G a w hrep⟩
  | succ fuel ih =>
    intro listed G a w hsz hcnt hcl hrep
    refine ⟨fun hr => ?_, fun i hi => ?_⟩
    · obtain ⟨q1, q2⟩ := hall listed hsz hr
      rw [q1, q2] at hrep
      exact hQ G a w hrep
    · obtain ⟨h1, o, ho, hdeps⟩ := mem_ready.1 hi
      have hio := (Array.getElem?_eq_some_iff.1 ho).1
      have hlt : i < listed.size := by rw [hsz]; exact hio
      have hfalse : listed[i]? = some false := by
        rw [Array.getD_eq_getD_getElem?, Array.getElem?_eq_getElem hlt] at h1
        rw [Array.getElem?_eq_getElem hlt]
        have h2 : listed[i] = false := h1
        rw [h2]
      have hDi : lD listed i = false := by unfold lD; rw [hfalse]; rfl
      have hLi : i < L.length := by omega
      have he : L[i]? = some L[i] := List.getElem?_eq_getElem hLi
      generalize L[i] = e at he
      have hdo := hdoes i o e (by simpa using ho) (by rw [List.getElem?_eq_getElem hLi] at he; rw [List.getElem?_eq_getElem hLi]; exact he)
      rw [Nat.zero_add] at hdo
      have hdir : ∀ j ∈ dirs o, lD listed j = true := by
        intro j hj
        obtain ⟨e', he', rfl⟩ := List.mem_map.1 hj
        obtain ⟨q1, q2⟩ := List.mem_filter.1 he'
        have := hdeps e' (by simpa using q1) q2
        rw [Array.getD_eq_getD_getElem?] at this
        exact this
      have hbi : ∀ j, inB B i j = true → lD listed j = true := by
        intro j hj
        rcases hNi.bef i o j ho hj with q | ⟨m, q1, q2⟩
        · exact hdir j q
        · exact hcl m (hdir m q1) j q2
      -- an operation on which the two sets part is apart from this one
      have hpart : ∀ j (f : LE), L[j]? = some f → j ≠ i → (lD listed j = true ∧ i < j ∨ lD listed j = false ∧ j < i) → Apart s0 h0 f e ∧ Apart s0 h0 e f := by
        intro j f hf hji hcase
        rcases hcase with ⟨k1, k2⟩ | ⟨k1, k2⟩
        · have hnb : inB B j i = false := by
            cases hb : inB B j i
            · rfl
            · have := hcl j k1 i hb; rw [hDi] at this; cases this
          obtain ⟨m1, m2⟩ := hNi.un i j e f k2 he hf hnb
          exact ⟨apart_spec m2, apart_spec m1⟩
        · have hnb : inB B i j = false := by
            cases hb : inB B i j
            · rfl
            · have := hbi j hb; rw [k1] at this; cases this
          obtain ⟨m1, m2⟩ := hNi.un j i f e k2 hf he hnb
          exact ⟨apart_spec m1, apart_spec m2⟩
      have hcase : ∀ j, j ≠ i → lD listed j = ltD i j ∨ (lD listed j = true ∧ i < j ∨ lD listed j = false ∧ j < i) := by
        intro j hj
        unfold ltD
        rcases Nat.lt_or_ge j i with q | q
        · cases hl : lD listed j
          · exact .inr (.inr ⟨rfl, q⟩)
          · exact .inl (Nat.ble_eq_true_of_le q).symm
        · cases hl : lD listed j
          · refine .inl ?_
            symm
            rw [Bool.eq_false_iff]
            intro hh
            have := Nat.le_of_ble_eq_true hh
            omega
          · exact .inr (.inl ⟨rfl, by omega⟩)
      have hltii : ltD i i = false := by
        unfold ltD
        rw [Bool.eq_false_iff]
        intro hh
        have := Nat.le_of_ble_eq_true hh
        omega
      have hsame : ∀ j (f : LE), L[j]? = some f → (Apart s0 h0 f e → False) → lD listed j = ltD i j := by
        intro j f hf hna
        by_cases hji : j = i
        · subst hji; rw [hDi, hltii]
        · rcases hcase j hji with q | q
          · exact q
          · exact (hna (hpart j f hf hji q).1).elim
      have hslot : ∀ t ∈ e.R, SD L s0 (lD listed) t = SD L s0 (ltD i) t := by
        intro t ht
        unfold SD
        rw [slotF_congr (D := lD listed) (D' := ltD i) L 0 _ fun j f hf hd => by
          rw [Nat.zero_add]
          exact hsame j f hf fun hap => (hap.d t hd).1 ht]
        congr 1
        refine AV.scrubP_same fun c hcn => ?_
        refine nwF_congr L 0 fun j f hf hcf => ?_
        rw [Nat.zero_add]
        exact hsame j f hf fun hap => hap.s c hcf t ht hcn
      have hheap : ∀ b ∈ e.N, HD L h0 (lD listed) b = HD L h0 (ltD i) b := by
        intro b hb
        unfold HD
        rw [heapF_congr (D := lD listed) (D' := ltD i) L 0 _ fun j f hf hd => by
          rw [Nat.zero_add]
          exact hsame j f hf fun hap => hap.mn b hd hb]
        congr 1
        cases hh : h0 b with
        | none => rfl
        | some ob =>
          rw [Option.map_some, Option.map_some]
          congr 1
          refine Ob.scrubP_same fun c hcn => ?_
          refine nwF_congr L 0 fun j f hf hcf => ?_
          rw [Nat.zero_add]
          exact hsame j f hf fun hap => hap.h c hcf b hb (by rw [hh]; exact hcn)
      have hdo' := hdo.local hs hslot hheap
      have hadd := SD_add (s := s0) (h := h0) he hDi (hNi.hu e (List.mem_of_getElem? he)) (fun j f hf hj x hx hxv => by
        have hji : j ≠ i := fun q => by subst q; rw [hDi] at hj; cases hj
        rcases Nat.lt_or_ge j i with q | q
        · exact hNi.ord j i f e q hf he x hx hxv
        · exact ((hpart j f hf hji (.inl ⟨hj, by omega⟩)).2.nv x hx).1 hxv) (fun j f hf hj hij => by
        have hap := (hpart j f hf (by omega) (.inl ⟨hj, hij⟩)).2
        exact ⟨fun t ht => (hap.d t ht).2, hap.mm⟩)
      have hset : lD (listed.setIfInBounds i true) = upd (lD listed) i true := by
        funext j
        unfold lD
        by_cases hj : j = i
        · subst hj; rw [upd_same, Array.getElem?_setIfInBounds_self_of_lt hlt]; rfl
        · rw [upd_ne _ _ hj, Array.getElem?_setIfInBounds_ne (Ne.symm hj)]
      unfold wpOp
      simp only [ho]
      refine hdo'.run hE hrep fun G' a' w' hrep' => ?_
      refine ih _ G' a' w' (by rw [Array.size_setIfInBounds]; exact hsz) ?_ ?_ ?_
      · rw [Array.toList_setIfInBounds]
        have := count_set listed.toList i (by rw [Array.getElem?_toList]; exact hfalse)
        omega
      · rw [hset]
        intro k hk j hj
        by_cases hji : j = i
        · subst hji; rw [upd_same]
        · rw [upd_ne _ _ hji]
          by_cases hki : k = i
          · subst hki; exact hbi j hj
          · rw [upd_ne _ _ hki] at hk
            exact hcl k hk j hj
      · rw [hset, hadd.1, hadd.2]
        exact hrep'

theorem Rep.drew {F : Fr} {n : Nat} {sl : Nat → AV} {hp : Nat → Option Ob} {G : Gh} {a : Act} {w : World} (h : Rep F n sl hp G a w) : Rep F n sl hp G a { w with drawn := w.drawn + 1 } := by
  have hx : Ext (Foot hp G) (Okay F hp G) G w (Okay F hp G) G { w with drawn := w.drawn + 1 } [] := ⟨⟨rfl, rfl, rfl, Nat.le_refl _, fun _ _ _ => rfl⟩, fun _ _ h => h, Okay.apart, fun _ _ => rfl⟩
  exact ⟨h.df, h.sz, h.lm, fun t => hx.av (by simp) (h.sl t), ⟨fun b ob hb => (h.hp.sat b ob hb).ext hx (by simp) (by simp) (fun _ _ => rfl) (fun _ => Iff.rfl), h.hp.dj, h.hp.bd, ⟨h.hp.fr.os, h.hp.fr.tape, h.hp.fr.output, h.hp.fr.size, h.hp.fr.block⟩, h.hp.zs, h.hp.tb⟩⟩

/-- a region, drawn or not -/
theorem region_wp {P : Program} {E : Env} (hE : E.Ok P) (hs : ∀ f s, E.sp f = some s → SpLoc s) (hm : P.follows .mixedOrders = true) {n id : Nat} {ops : Array Oper} {dr : Bool} {s0 sN : Nat → AV} {h0 hN : Nat → Option Ob} {L : List LE} (hc : Chain E n ops ops.toList L s0 h0 sN hN)
    (hB : dr = true → niOk ops s0 h0 L (befs ops.toList []) = true) {F : Fr} {Q : Exit → Act → World → Prop} (hQ : ∀ G a w, Rep F n sN hN G a w → Q .normal a w) {G : Gh} {a : Act} {w : World} (h : Rep F n s0 h0 G a w) : (Code.region id ops dr).wp P Q a w := by
  cases dr with
  | false => exact wp_region_list (hc.list hE hQ _ _ _ _ G a w h)
  | true =>
    have hnone : lD (Array.replicate ops.size false) = fun _ => false := by
      funext j
      unfold lD
      rw [Array.getElem?_replicate]
      split <;> rfl
    refine wp_region_any hm (drawn_any hE hs hc (hB rfl) hQ _ _ G a _ (by simp) ?_ (fun i hi => by rw [hnone] at hi; cases hi) ?_)
    · rw [Array.toList_replicate]
      exact Nat.le_trans List.count_le_length (by simp)
    · rw [hnone, SD_none, HD_none]
      exact h.drew
end Go.Proofs.Ytgdlbpihkodeoaa
