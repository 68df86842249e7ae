/- Sx, the framework, joined: SxA, SxB, SxC, SxD, SxE, SxF, SxG, SxH, SxI. Written by fw.py. -/
import Derived.Test.YtgdlbpihkodeoaaBase
import Derived.Maps.AppendAt
import Derived.Test.YtgdlbpihkodeoaaOnly
import Derived.Test.YtgdlbpihkodeoaaTab0
import Derived.Laws.CopyRow
import Derived.Laws.OwnMore
import Derived.IntWalk
import Derived.Lib.ConvBytes
import Derived.Laws.BytesString
namespace Go.Proofs.Ytgdlbpihkodeoaa
open Go.RowKit

/-! part SxA -/
/-- the types of data -/
inductive Ty where
  | int (k : IntKind)
  | bool
  | str
  | slice (e : Ty)
  | pair (a b : Ty)
  | st (a : Ty)
  deriving DecidableEq

@[reducible] def Ty.den : Ty → Type
  | .int _ => Int
  | .bool => Bool
  | .str => ByteArray
  | .slice e => List e.den
  | .pair a b => a.den × b.den
  | .st a => a.den

def Ty.size : Ty → Nat
  | .pair a b => a.size + b.size
  | .st a => a.size
  | _ => 1

def Ty.dflt : (t : Ty) → t.den
  | .int _ => (0 : Int)
  | .bool => false
  | .str => ByteArray.empty
  | .slice _ => []
  | .pair a b => (a.dflt, b.dflt)
  | .st a => a.dflt

theorem Ty.size_pos : ∀ t : Ty, 0 < t.size
  | .int _ => Nat.one_pos
  | .bool => Nat.one_pos
  | .str => Nat.one_pos
  | .slice _ => Nat.one_pos
  | .pair a b => Nat.add_pos_left a.size_pos _
  | .st a => a.size_pos

/-- data x of type t lie in the cells cs, what they lead to in blocks of A -/
def Ty.rd (w : World) (A : Nat → Prop) : (t : Ty) → t.den → List Value → Prop
  | .int k, n, cs => cs = [.int k n] ∧ k.min ≤ n ∧ n ≤ k.max
  | .bool, x, cs => cs = [.bool x]
  | .str, s, cs => cs = [.string s] ∧ s.size ≤ maxLen
  | .slice e, l, cs => ∃ ao cap, cs = [.slice ao l.length cap] ∧ l.length ≤ cap ∧ cap ≤ maxLen ∧ (ao = none → cap = 0) ∧
      ∀ i (h : i < l.length), ∃ b off es, ao = some ⟨b, off, none⟩ ∧ A b ∧ b < w.heap.size ∧ e.rd w A l[i] es ∧ ∀ j (hj : j < es.length), w.cell? ⟨b, off + (i * e.size + j), none⟩ = some es[j]
  | .pair a b, x, cs => ∃ c1 c2, cs = c1 ++ c2 ∧ a.rd w A x.1 c1 ∧ b.rd w A x.2 c2
  | .st a, x, cs => a.rd w A x cs

theorem Ty.rd_len {w : World} {A : Nat → Prop} : ∀ (t : Ty) (x : t.den) (cs : List Value), t.rd w A x cs → cs.length = t.size
  | .int k, n, cs, h => by rw [h.1]; rfl
  | .bool, n, cs, h => by rw [show cs = _ from h]; rfl
  | .str, n, cs, h => by rw [h.1]; rfl
  | .slice e, n, cs, h => by obtain ⟨ao, cap, rfl, _⟩ := h; rfl
  | .pair a b, x, cs, h => by
    obtain ⟨c1, c2, rfl, h1, h2⟩ := h
    rw [List.length_append, Ty.rd_len a _ _ h1, Ty.rd_len b _ _ h2]
    rfl
  | .st a, x, cs, h => Ty.rd_len a x cs h

theorem Ty.rd_one {w : World} {A : Nat → Prop} : ∀ (t : Ty) (x : t.den) (cs : List Value), t.rd w A x cs → ∀ u ∈ cs, u.oneCell' = true
  | .int k, n, cs, h => by rw [h.1]; simp; rfl
  | .bool, n, cs, h => by rw [show cs = _ from h]; simp; rfl
  | .str, n, cs, h => by rw [h.1]; simp; rfl
  | .slice e, n, cs, h => by obtain ⟨ao, cap, rfl, _⟩ := h; simp; rfl
  | .pair a b, x, cs, h => by
    obtain ⟨c1, c2, rfl, h1, h2⟩ := h
    intro u hu
    rcases List.mem_append.1 hu with hu | hu
    · exact Ty.rd_one a _ _ h1 u hu
    · exact Ty.rd_one b _ _ h2 u hu
  | .st a, x, cs, h => Ty.rd_one a x cs h

theorem cell_same {w w' : World} {b o : Nat} (h : w'.heap[b]? = w.heap[b]?) : w'.cell? ⟨b, o, none⟩ = w.cell? ⟨b, o, none⟩ := by simp [World.cell?, h]

/-- data stay while the blocks of A do -/
theorem Ty.rd_mono {w w' : World} {A A' : Nat → Prop} (hs : w.heap.size ≤ w'.heap.size) (hA : ∀ b, A b → b < w.heap.size → A' b ∧ w'.heap[b]? = w.heap[b]?) :
    ∀ (t : Ty) (x : t.den) (cs : List Value), t.rd w A x cs → t.rd w' A' x cs
  | .int k, n, cs, h => h
  | .bool, n, cs, h => h
  | .str, n, cs, h => h
  | .slice e, l, cs, h => by
    obtain ⟨ao, cap, h0, h1, h2, h3, h4⟩ := h
    refine ⟨ao, cap, h0, h1, h2, h3, fun i hi => ?_⟩
    obtain ⟨b, off, es, k0, k1, k2, k3, k4⟩ := h4 i hi
    obtain ⟨a1, a2⟩ := hA b k1 k2
    exact ⟨b, off, es, k0, a1, Nat.lt_of_lt_of_le k2 hs, Ty.rd_mono hs hA e _ _ k3, fun j hj => (cell_same a2).trans (k4 j hj)⟩
  | .pair a b, x, cs, h => by
    obtain ⟨c1, c2, h0, h1, h2⟩ := h
    exact ⟨c1, c2, h0, Ty.rd_mono hs hA a _ _ h1, Ty.rd_mono hs hA b _ _ h2⟩
  | .st a, x, cs, h => Ty.rd_mono hs hA a x cs h

/-- a cell of a state: data, a nil slice, an address in a named block, nil, a slice that is a named row, an address of data, an address in a named row, a function -/
inductive Lf where
  | d (t : Ty) (x : t.den)
  | nl
  | p (b off : Nat)
  | np
  | o (b : Nat)
  | dp (t : Ty) (x : t.den)
  | pe (b i s k : Nat)
  | fn (f : FuncId) (c : List Nat)
  | nf
  | un
  | px (b i s k : Nat)
  | vw (b lo n s : Nat)

/-- what a slot holds: one cell or an aggregate; a tuple of such -/
inductive AV where
  | v (agg : Bool) (ls : List Lf)
  | tu (es : List (Bool × List Lf))
  | un

structure Gh where
  r : Nat → Value
  f : Nat → Nat → Prop

def boxAt (G : Gh) (b g : Nat) : Prop := G.r b = .pointer (some ⟨g, 0, none⟩)

def Lf.rel (w : World) (G : Gh) (A : Nat → Prop) : Lf → Value → Prop
  | .d t x, v => t.rd w A x [v]
  | .nl, v => v = .slice none 0 0
  | .p b off, v => ∃ g, boxAt G b g ∧ v = .pointer (some ⟨g, off, none⟩)
  | .np, v => v = .pointer none
  | .o b, v => v = G.r b ∧ v.oneCell' = true
  | .dp t x, v => ∃ g off cs, v = .pointer (some ⟨g, off, none⟩) ∧ A g ∧ g < w.heap.size ∧ t.rd w A x cs ∧ ∀ j (h : j < cs.length), w.cell? ⟨g, off + j, none⟩ = some cs[j]
  | .pe b i s k, v => ∃ g, (G.r b).ownBlock = some g ∧ v = .pointer (some ⟨g, i * s + k, none⟩)
  | .fn f c, v => ∃ gs : List Nat, v = .func (.func f) #[] (gs.map fun g => Value.pointer (some ⟨g, 0, none⟩)).toArray ∧ gs.length = c.length ∧ ∀ i (h : i < c.length) (h' : i < gs.length), boxAt G c[i] gs[i]
  | .nf, v => v = .nilFunc
  | .un, v => v.oneCell' = true
  | .px b i s k, v => ∃ g, (G.r b).ownBlock = some g ∧ v = .pointer (some ⟨g, i * s + k, none⟩)
  | .vw b lo n s, v => ∃ ao len cap ao', G.r b = .slice ao len cap ∧ lo + n ≤ len ∧ v = .slice ao' n (cap - lo) ∧ (lo = 0 → ao' = ao) ∧ (0 < n → ∃ g, ao = some ⟨g, 0, none⟩ ∧ ao' = some ⟨g, lo * s, none⟩) ∧ (ao' = none → ao = none)

/-- the names that a cell speaks of -/
def Lf.names : Lf → List Nat
  | .p b _ => [b]
  | .o b => [b]
  | .pe b _ _ _ => [b]
  | .fn _ c => c
  | .px b _ _ _ => [b]
  | .vw b _ _ _ => [b]
  | _ => []

def relL (w : World) (G : Gh) (A : Nat → Prop) : List Lf → List Value → Prop
  | [], vs => vs = []
  | x :: xs, vs => ∃ v r, vs = v :: r ∧ x.rel w G A v ∧ relL w G A xs r

def mkV : Bool → List Value → Value
  | true, vs => .agg vs.toArray
  | false, vs => vs.headD undef

def relE (w : World) (G : Gh) (A : Nat → Prop) (e : Bool × List Lf) (v : Value) : Prop := ∃ vs, relL w G A e.2 vs ∧ v = mkV e.1 vs ∧ (e.1 = false → vs.length = 1)

def relT (w : World) (G : Gh) (A : Nat → Prop) : List (Bool × List Lf) → List Value → Prop
  | [], vs => vs = []
  | x :: xs, vs => ∃ v r, vs = v :: r ∧ relE w G A x v ∧ relT w G A xs r

def AV.rel (w : World) (G : Gh) (A : Nat → Prop) : AV → Value → Prop
  | .v agg ls, u => relE w G A (agg, ls) u
  | .tu es, u => ∃ vs, u = .tuple vs.toArray ∧ relT w G A es vs
  | .un, _ => True

def AV.names : AV → List Nat
  | .v _ ls => ls.flatMap Lf.names
  | .tu es => es.flatMap fun e => e.2.flatMap Lf.names
  | .un => []

theorem Lf.rel_one {w : World} {G : Gh} {A : Nat → Prop} {x : Lf} {v : Value} (h : x.rel w G A v) : v.oneCell' = true := by
  cases x with
  | d t x => exact Ty.rd_one t x _ h v (by simp)
  | nl => rw [show v = _ from h]; rfl
  | p b off => obtain ⟨g, _, rfl⟩ := h; rfl
  | np => rw [show v = _ from h]; rfl
  | o b => exact h.2
  | dp t x => obtain ⟨g, off, cs, rfl, _⟩ := h; rfl
  | pe b i s k => obtain ⟨g, _, rfl⟩ := h; rfl
  | fn f c => obtain ⟨gs, rfl, _⟩ := h; rfl
  | nf => rw [show v = _ from h]; rfl
  | un => exact h
  | px b i s k => obtain ⟨g, _, rfl⟩ := h; rfl
  | vw b lo n s => obtain ⟨ao, len, cap, ao', _, _, rfl, _⟩ := h; rfl

/-- what changes from one world to the next, by the names: Nw are new -/
structure Ext (Ft : Nat → Prop) (A : Nat → Prop) (G : Gh) (w : World) (A' : Nat → Prop) (G' : Gh) (w' : World) (Nw : List Nat) : Prop where
  only : Only Ft w w'
  keepA : ∀ k, k < w.heap.size → A k → A' k
  apart : ∀ k, A k → ¬ Ft k
  r : ∀ b, b ∉ Nw → G'.r b = G.r b

theorem Ext.rd {Ft A : Nat → Prop} {G : Gh} {w : World} {A' : Nat → Prop} {G' : Gh} {w' : World} {Nw : List Nat} (h : Ext Ft A G w A' G' w' Nw) (t : Ty) (x : t.den) (cs : List Value) (hr : t.rd w A x cs) : t.rd w' A' x cs :=
  Ty.rd_mono h.only.size (fun b hb hl => ⟨h.keepA b hl hb, h.only.block b hl (h.apart b hb)⟩) t x cs hr

theorem Ext.lf {Ft A : Nat → Prop} {G : Gh} {w : World} {A' : Nat → Prop} {G' : Gh} {w' : World} {Nw : List Nat} (h : Ext Ft A G w A' G' w' Nw) {x : Lf} {v : Value} (hn : ∀ b ∈ x.names, b ∉ Nw) (hr : x.rel w G A v) : x.rel w' G' A' v := by
  cases x with
  | d t x => exact h.rd t x _ hr
  | nl => exact hr
  | p b off => obtain ⟨g, h1, h2⟩ := hr; exact ⟨g, (h.r b (hn b (by simp [Lf.names]))).trans h1, h2⟩
  | np => exact hr
  | o b => exact ⟨hr.1.trans (h.r b (hn b (by simp [Lf.names]))).symm, hr.2⟩
  | dp t x =>
    obtain ⟨g, off, cs, h1, h2, h3, h4, h5⟩ := hr
    exact ⟨g, off, cs, h1, h.keepA g h3 h2, Nat.lt_of_lt_of_le h3 h.only.size, h.rd t x _ h4, fun j hj => (cell_same (h.only.block g h3 (h.apart g h2))).trans (h5 j hj)⟩
  | pe b i s k => obtain ⟨g, h1, h2⟩ := hr; exact ⟨g, by rw [h.r b (hn b (by simp [Lf.names]))]; exact h1, h2⟩
  | fn f c =>
    obtain ⟨gs, h1, h2, h3⟩ := hr
    exact ⟨gs, h1, h2, fun i hi hi' => (h.r _ (hn _ (by simp [Lf.names]))).trans (h3 i hi hi')⟩
  | nf => exact hr
  | un => exact hr
  | px b i s k => obtain ⟨g, h1, h2⟩ := hr; exact ⟨g, by rw [h.r b (hn b (by simp [Lf.names]))]; exact h1, h2⟩
  | vw b lo n s => obtain ⟨ao, len, cap, ao', h1, h2⟩ := hr; exact ⟨ao, len, cap, ao', by rw [h.r b (hn b (by simp [Lf.names]))]; exact h1, h2⟩

theorem Ext.ls {Ft A : Nat → Prop} {G : Gh} {w : World} {A' : Nat → Prop} {G' : Gh} {w' : World} {Nw : List Nat} (h : Ext Ft A G w A' G' w' Nw) : ∀ {xs : List Lf} {vs : List Value}, (∀ b ∈ xs.flatMap Lf.names, b ∉ Nw) → relL w G A xs vs → relL w' G' A' xs vs
  | [], vs, _, hr => hr
  | x :: xs, vs, hn, hr => by
    obtain ⟨v, r, h1, h2, h3⟩ := hr
    exact ⟨v, r, h1, h.lf (fun b hb => hn b (by simp [hb])) h2, h.ls (fun b hb => hn b (by simp only [List.flatMap_cons, List.mem_append]; exact .inr hb)) h3⟩

theorem Ext.e {Ft A : Nat → Prop} {G : Gh} {w : World} {A' : Nat → Prop} {G' : Gh} {w' : World} {Nw : List Nat} (h : Ext Ft A G w A' G' w' Nw) {x : Bool × List Lf} {v : Value} (hn : ∀ b ∈ x.2.flatMap Lf.names, b ∉ Nw) (hr : relE w G A x v) : relE w' G' A' x v := by
  obtain ⟨vs, h1, h2, h3⟩ := hr
  exact ⟨vs, h.ls hn h1, h2, h3⟩

theorem Ext.tu {Ft A : Nat → Prop} {G : Gh} {w : World} {A' : Nat → Prop} {G' : Gh} {w' : World} {Nw : List Nat} (h : Ext Ft A G w A' G' w' Nw) : ∀ {xs : List (Bool × List Lf)} {vs : List Value}, (∀ b ∈ xs.flatMap (fun e => e.2.flatMap Lf.names), b ∉ Nw) → relT w G A xs vs → relT w' G' A' xs vs
  | [], vs, _, hr => hr
  | x :: xs, vs, hn, hr => by
    obtain ⟨v, r, h1, h2, h3⟩ := hr
    exact ⟨v, r, h1, h.e (fun b hb => hn b (by simp only [List.flatMap_cons, List.mem_append]; exact .inl hb)) h2, h.tu (fun b hb => hn b (by simp only [List.flatMap_cons, List.mem_append]; exact .inr hb)) h3⟩

theorem Ext.av {Ft A : Nat → Prop} {G : Gh} {w : World} {A' : Nat → Prop} {G' : Gh} {w' : World} {Nw : List Nat} (h : Ext Ft A G w A' G' w' Nw) {x : AV} {v : Value} (hn : ∀ b ∈ x.names, b ∉ Nw) (hr : x.rel w G A v) : x.rel w' G' A' v := by
  cases x with
  | v agg ls => exact h.e (x := (agg, ls)) hn hr
  | tu es => obtain ⟨vs, h1, h2⟩ := hr; exact ⟨vs, h1, h.tu hn h2⟩
  | un => trivial

/-- what a name stands for: a block known cell by cell (behind a pointer, behind a slice), a row of data that grows -/
inductive Ob where
  | box (T : TypeId) (cs : List Lf)
  | arr (E : TypeId) (n : Nat) (cs : List Lf)
  | row (E : TypeId) (t : Ty) (l : List t.den)
  | rox (E : TypeId) (t : Ty) (l1 : List t.den) (cs : List Lf) (l2 : List t.den)
  | bld (T e : TypeId) (l : List UInt8)

/-- bytes as values -/
def bcs (l : List UInt8) : List Value := l.map fun c => .int .u8 (c.toNat : Int)

def Ob.names : Ob → List Nat
  | .box _ cs => cs.flatMap Lf.names
  | .arr _ _ cs => cs.flatMap Lf.names
  | .row _ _ _ => []
  | .rox _ _ _ cs _ => cs.flatMap Lf.names
  | .bld _ _ _ => []

/-- the cells of a row -/
def rdL (w : World) (A : Nat → Prop) (t : Ty) : List t.den → List Value → Prop
  | [], vs => vs = []
  | x :: xs, vs => ∃ c r, vs = c ++ r ∧ t.rd w A x c ∧ rdL w A t xs r

theorem rdL_len {w : World} {A : Nat → Prop} {t : Ty} : ∀ {l : List t.den} {vs : List Value}, rdL w A t l vs → vs.length = l.length * t.size
  | [], vs, h => by rw [show vs = _ from h]; simp
  | x :: xs, vs, h => by
    obtain ⟨c, r, rfl, h1, h2⟩ := h
    rw [List.length_append, Ty.rd_len t x c h1, rdL_len h2, List.length_cons, Nat.add_mul]
    omega
theorem rdL_one {w : World} {A : Nat → Prop} {t : Ty} : ∀ {l : List t.den} {vs : List Value}, rdL w A t l vs → ∀ u ∈ vs, u.oneCell' = true
  | [], vs, h => by rw [show vs = _ from h]; simp
  | x :: xs, vs, h => by
    obtain ⟨c, r, rfl, h1, h2⟩ := h
    intro u hu
    rcases List.mem_append.1 hu with hu | hu
    · exact Ty.rd_one t x c h1 u hu
    · exact rdL_one h2 u hu
theorem rdL_append {w : World} {A : Nat → Prop} {t : Ty} : ∀ {l m : List t.den} {vs us : List Value}, rdL w A t l vs → rdL w A t m us → rdL w A t (l ++ m) (vs ++ us)
  | [], m, vs, us, h, k => by rw [show vs = _ from h]; exact k
  | x :: xs, m, vs, us, h, k => by
    obtain ⟨c, r, rfl, h1, h2⟩ := h
    exact ⟨c, r ++ us, by simp, h1, rdL_append h2 k⟩
theorem rdL_at {w : World} {A : Nat → Prop} {t : Ty} : ∀ {l : List t.den} {vs : List Value}, rdL w A t l vs → ∀ i (h : i < l.length), t.rd w A l[i] ((vs.drop (i * t.size)).take t.size)
  | x :: xs, vs, h, 0, hi => by
    obtain ⟨c, r, rfl, h1, h2⟩ := h
    have := Ty.rd_len t x c h1
    simp only [Nat.zero_mul, List.drop_zero, List.getElem_cons_zero]
    rw [List.take_append_of_le_length (by omega), List.take_of_length_le (by omega)]
    exact h1
  | x :: xs, vs, h, i + 1, hi => by
    obtain ⟨c, r, rfl, h1, h2⟩ := h
    have h3 := Ty.rd_len t x c h1
    have ih := rdL_at h2 i (by simpa using hi)
    simp only [List.getElem_cons_succ]
    rw [show (i + 1) * t.size = c.length + i * t.size by rw [Nat.add_mul, h3]; omega, List.drop_append, List.drop_of_length_le (by omega), Nat.add_sub_cancel_left]
    exact ih
theorem rdL_mono {w w' : World} {A A' : Nat → Prop} (hs : w.heap.size ≤ w'.heap.size) (hA : ∀ b, A b → b < w.heap.size → A' b ∧ w'.heap[b]? = w.heap[b]?) {t : Ty} : ∀ {l : List t.den} {vs : List Value}, rdL w A t l vs → rdL w' A' t l vs
  | [], vs, h => h
  | x :: xs, vs, h => by
    obtain ⟨c, r, h0, h1, h2⟩ := h
    exact ⟨c, r, h0, Ty.rd_mono hs hA t x c h1, rdL_mono hs hA h2⟩

def Sat (w : World) (G : Gh) (A : Nat → Prop) (b : Nat) : Ob → Prop
  | .box T cs => ∃ g vs, boxAt G b g ∧ w.heap[g]? = some (.cells vs T (0, 0)) ∧ relL w G A cs vs.toList ∧ ∀ k, G.f b k ↔ k = g
  | .arr E n cs => ∃ g vs, G.r b = .slice (some ⟨g, 0, none⟩) n n ∧ n ≤ maxLen ∧ w.heap[g]? = some (.cells vs E (0, 0)) ∧ relL w G A cs vs.toList ∧ ∀ k, G.f b k ↔ k = g
  | .row E t l => ∃ vs, rdL w A t l vs ∧ w.ownsRow 0 E t.size (G.r b) l.length vs ∧ ∀ k, G.f b k ↔ (G.r b).ownBlock = some k
  | .rox E t l1 cs l2 => ∃ v1 c v2, rdL w A t l1 v1 ∧ relL w G A cs c ∧ c.length = t.size ∧ rdL w A t l2 v2 ∧ w.ownsRow 0 E t.size (G.r b) (l1.length + 1 + l2.length) (v1 ++ (c ++ v2)) ∧ ∀ k, G.f b k ↔ (G.r b).ownBlock = some k
  | .bld T e l => ∃ g p v, boxAt G b g ∧ (p = .pointer none ∨ p = .pointer (some ⟨g, 0, none⟩)) ∧ w.heap[g]? = some (.cells #[p, v] T (0, 0)) ∧ w.ownsRow 0 e 1 v l.length (bcs l) ∧ v.ownBlock ≠ some g ∧ ∀ k, G.f b k ↔ (k = g ∨ v.ownBlock = some k)

/-- the frame of a call: the world of its beginning, the old blocks that data may lie in, the old blocks that it may change -/
structure Fr where
  w0 : World
  Z : Nat → Prop
  S : Nat → Prop
  old : Nat → Value

def Foot (hp : Nat → Option Ob) (G : Gh) (k : Nat) : Prop := ∃ b ob, hp b = some ob ∧ G.f b k
def Okay (F : Fr) (hp : Nat → Option Ob) (G : Gh) (k : Nat) : Prop := (F.Z k ∨ F.w0.heap.size ≤ k) ∧ ¬ Foot hp G k

/-- what holds of the tables of the library, in each world of a call -/
def FrTb (F : Fr) : Prop := ∀ w, Only F.S F.w0 w → Tb w

structure RepH (F : Fr) (hp : Nat → Option Ob) (G : Gh) (w : World) : Prop where
  sat : ∀ b ob, hp b = some ob → Sat w G (Okay F hp G) b ob
  dj : ∀ b c ob oc, b ≠ c → hp b = some ob → hp c = some oc → ∀ k, G.f b k → ¬ G.f c k
  bd : ∀ b ob, hp b = some ob → ∀ k, G.f b k → k < w.heap.size ∧ (F.S k ∨ F.w0.heap.size ≤ k)
  fr : Only F.S F.w0 w
  zs : ∀ k, F.S k → F.Z k
  tb : FrTb F

/-- the slots from SUS on: what the callers' slots hold, of calls that are run in place -/
@[reducible] def SUS : Nat := 1000000
def vl (F : Fr) (a : Act) (t : Nat) : Value := bif Nat.blt t SUS then a.tmps.getD t undef else F.old t

structure Rep (F : Fr) (n : Nat) (sl : Nat → AV) (hp : Nat → Option Ob) (G : Gh) (a : Act) (w : World) : Prop where
  df : a.defers = []
  sz : a.tmps.size = n
  lm : n ≤ SUS
  sl : ∀ t, (sl t).rel w G (Okay F hp G) (vl F a t)
  hp : RepH F hp G w

/-! part SxB -/
def upd {α : Type} (f : Nat → α) (b : Nat) (x : α) : Nat → α := fun k => if k = b then x else f k
theorem upd_same {α : Type} (f : Nat → α) (b : Nat) (x : α) : upd f b x b = x := if_pos rfl
theorem upd_ne {α : Type} (f : Nat → α) {b k : Nat} (x : α) (h : k ≠ b) : upd f b x k = f k := if_neg h

/-- an object that nothing has touched -/
theorem Sat.ext {Ft A : Nat → Prop} {G : Gh} {w : World} {A' : Nat → Prop} {G' : Gh} {w' : World} {Nw : List Nat} {b : Nat} {ob : Ob} (h : Sat w G A b ob) (e : Ext Ft A G w A' G' w' Nw)
    (hb : b ∉ Nw) (hn : ∀ c ∈ ob.names, c ∉ Nw) (hk : ∀ k, G.f b k → w'.heap[k]? = w.heap[k]?) (hf : ∀ k, G'.f b k ↔ G.f b k) : Sat w' G' A' b ob := by
  cases ob with
  | box T cs =>
    obtain ⟨g, vs, h1, h2, h3, h4⟩ := h
    exact ⟨g, vs, (e.r b hb).trans h1, (hk g ((h4 g).2 rfl)).trans h2, e.ls hn h3, fun k => (hf k).trans (h4 k)⟩
  | arr E n cs =>
    obtain ⟨g, vs, h1, h0, h2, h3, h4⟩ := h
    exact ⟨g, vs, (e.r b hb).trans h1, h0, (hk g ((h4 g).2 rfl)).trans h2, e.ls hn h3, fun k => (hf k).trans (h4 k)⟩
  | row E t l =>
    obtain ⟨vs, h1, h2, h3⟩ := h
    refine ⟨vs, rdL_mono e.only.size (fun k hk' hl => ⟨e.keepA k hl hk', e.only.block k hl (e.apart k hk')⟩) h1, ?_, fun k => by rw [e.r b hb]; exact (hf k).trans (h3 k)⟩
    rw [e.r b hb]
    obtain ⟨q1, q2⟩ := h2
    refine ⟨q1, ?_⟩
    rcases q2 with q2 | ⟨g, cap, cur, q3, q4, q5, q6⟩
    · exact .inl q2
    · exact .inr ⟨g, cap, cur, q3, q4, (hk g ((h3 g).2 (by rw [q3]; rfl))).trans q5, q6⟩
  | rox E t l1 cs l2 =>
    obtain ⟨v1, c, v2, h1, h5, h6, h7, h2, h3⟩ := h
    have mono : ∀ {l : List t.den} {vs : List Value}, rdL w A t l vs → rdL w' A' t l vs := fun hh => rdL_mono e.only.size (fun k hk' hl => ⟨e.keepA k hl hk', e.only.block k hl (e.apart k hk')⟩) hh
    refine ⟨v1, c, v2, mono h1, e.ls hn h5, h6, mono h7, ?_, fun k => by rw [e.r b hb]; exact (hf k).trans (h3 k)⟩
    rw [e.r b hb]
    obtain ⟨q1, q2⟩ := h2
    refine ⟨q1, ?_⟩
    rcases q2 with q2 | ⟨g, cap, cur, q3, q4, q5, q6⟩
    · exact .inl q2
    · exact .inr ⟨g, cap, cur, q3, q4, (hk g ((h3 g).2 (by rw [q3]; rfl))).trans q5, q6⟩
  | bld T e0 l =>
    obtain ⟨g, p, v, h1, h2, h3, h4, h5, h6⟩ := h
    refine ⟨g, p, v, (e.r b hb).trans h1, h2, (hk g ((h6 g).2 (.inl rfl))).trans h3, ?_, h5, fun k => (hf k).trans (h6 k)⟩
    obtain ⟨q1, q2⟩ := h4
    refine ⟨q1, ?_⟩
    rcases q2 with q2 | ⟨g', cap, cur, q3, q4, q5, q6⟩
    · exact .inl q2
    · exact .inr ⟨g', cap, cur, q3, q4, (hk g' ((h6 g').2 (.inr (by rw [q3]; rfl)))).trans q5, q6⟩

theorem relL_len {w : World} {G : Gh} {A : Nat → Prop} : ∀ {xs : List Lf} {vs : List Value}, relL w G A xs vs → vs.length = xs.length
  | [], vs, h => by rw [show vs = _ from h]; rfl
  | x :: xs, vs, h => by obtain ⟨v, r, rfl, _, h2⟩ := h; simp [relL_len h2]
theorem relL_one {w : World} {G : Gh} {A : Nat → Prop} : ∀ {xs : List Lf} {vs : List Value}, relL w G A xs vs → ∀ u ∈ vs, u.oneCell' = true
  | [], vs, h => by rw [show vs = _ from h]; simp
  | x :: xs, vs, h => by
    obtain ⟨v, r, rfl, h1, h2⟩ := h
    intro u hu
    rcases List.mem_cons.1 hu with rfl | hu
    · exact Lf.rel_one h1
    · exact relL_one h2 u hu
theorem relL_append {w : World} {G : Gh} {A : Nat → Prop} : ∀ {xs ys : List Lf} {vs us : List Value}, relL w G A xs vs → relL w G A ys us → relL w G A (xs ++ ys) (vs ++ us)
  | [], ys, vs, us, h, k => by rw [show vs = _ from h]; exact k
  | x :: xs, ys, vs, us, h, k => by obtain ⟨v, r, rfl, h1, h2⟩ := h; exact ⟨v, r ++ us, rfl, h1, relL_append h2 k⟩
theorem relL_drop {w : World} {G : Gh} {A : Nat → Prop} : ∀ {xs : List Lf} {vs : List Value} (n : Nat), relL w G A xs vs → relL w G A (xs.drop n) (vs.drop n)
  | xs, vs, 0, h => h
  | [], vs, n + 1, h => by rw [show vs = _ from h]; rfl
  | x :: xs, vs, n + 1, h => by obtain ⟨v, r, rfl, h1, h2⟩ := h; exact relL_drop n h2
theorem relL_take {w : World} {G : Gh} {A : Nat → Prop} : ∀ {xs : List Lf} {vs : List Value} (n : Nat), relL w G A xs vs → relL w G A (xs.take n) (vs.take n)
  | xs, vs, 0, h => by simp [relL]
  | [], vs, n + 1, h => by rw [show vs = _ from h]; rfl
  | x :: xs, vs, n + 1, h => by obtain ⟨v, r, rfl, h1, h2⟩ := h; exact ⟨v, r.take n, rfl, h1, relL_take n h2⟩
theorem relL_at {w : World} {G : Gh} {A : Nat → Prop} : ∀ {xs : List Lf} {vs : List Value}, relL w G A xs vs → ∀ i (h : i < xs.length), ∃ v, vs[i]? = some v ∧ xs[i].rel w G A v
  | x :: xs, vs, h, 0, hi => by obtain ⟨v, r, rfl, h1, h2⟩ := h; exact ⟨v, rfl, h1⟩
  | x :: xs, vs, h, i + 1, hi => by obtain ⟨v, r, rfl, h1, h2⟩ := h; exact relL_at h2 i (by simpa using hi)
theorem relL_set {w : World} {G : Gh} {A : Nat → Prop} {y : Lf} {u : Value} (hy : y.rel w G A u) : ∀ {xs : List Lf} {vs : List Value} (i : Nat), relL w G A xs vs → relL w G A (xs.set i y) (vs.set i u)
  | [], vs, i, h => by rw [show vs = _ from h]; rfl
  | x :: xs, vs, 0, h => by obtain ⟨v, r, rfl, h1, h2⟩ := h; exact ⟨u, r, rfl, hy, h2⟩
  | x :: xs, vs, i + 1, h => by obtain ⟨v, r, rfl, h1, h2⟩ := h; exact ⟨v, r.set i u, rfl, h1, relL_set hy i h2⟩

theorem RepH.lt {F : Fr} {hp : Nat → Option Ob} {G : Gh} {w : World} (h : RepH F hp G w) {k : Nat} (hk : Foot hp G k) : k < w.heap.size := by
  obtain ⟨b, ob, h1, h2⟩ := hk
  exact (h.bd b ob h1 k h2).1
theorem RepH.at {F : Fr} {hp : Nat → Option Ob} {G : Gh} {w : World} (h : RepH F hp G w) {k : Nat} (hk : Foot hp G k) : F.S k ∨ F.w0.heap.size ≤ k := by
  obtain ⟨b, ob, h1, h2⟩ := hk
  exact (h.bd b ob h1 k h2).2
theorem RepH.size {F : Fr} {hp : Nat → Option Ob} {G : Gh} {w : World} (h : RepH F hp G w) : F.w0.heap.size ≤ w.heap.size := h.fr.size

theorem Ext.refl (Ft A : Nat → Prop) (G : Gh) (w : World) (h : ∀ k, A k → ¬ Ft k) : Ext Ft A G w A G w [] := ⟨Only.refl _ _, fun _ _ h => h, h, fun _ _ => rfl⟩
theorem Okay.apart {F : Fr} {hp : Nat → Option Ob} {G : Gh} (k : Nat) (h : Okay F hp G k) : ¬ Foot hp G k := h.2

/-- what speaks of the name d no longer does -/
def Lf.scrub (d : Nat) : Lf → Lf
  | .p b off => bif Nat.beq b d then .un else .p b off
  | .o b => bif Nat.beq b d then .un else .o b
  | .pe b i s k => bif Nat.beq b d then .un else .pe b i s k
  | .px b i s k => bif Nat.beq b d then .un else .px b i s k
  | .vw b lo n s => bif Nat.beq b d then .un else .vw b lo n s
  | .fn f c => bif c.any (fun b => Nat.beq b d) then .un else .fn f c
  | x => x
def AV.scrub (d : Nat) : AV → AV
  | .v agg ls => .v agg (ls.map (Lf.scrub d))
  | .tu es => .tu (es.map fun e => (e.1, e.2.map (Lf.scrub d)))
  | .un => .un
def Ob.scrub (d : Nat) : Ob → Ob
  | .box T cs => .box T (cs.map (Lf.scrub d))
  | .arr E n cs => .arr E n (cs.map (Lf.scrub d))
  | .row E t l => .row E t l
  | .rox E t l1 cs l2 => .rox E t l1 (cs.map (Lf.scrub d)) l2
  | .bld T e l => .bld T e l

theorem Ext.lfS {Ft A : Nat → Prop} {G : Gh} {w : World} {A' : Nat → Prop} {G' : Gh} {w' : World} {d : Nat} (h : Ext Ft A G w A' G' w' [d]) {x : Lf} {v : Value} (hr : x.rel w G A v) : (x.scrub d).rel w' G' A' v := by
  have key : ∀ b : Nat, Nat.beq b d = false → ∀ c ∈ [b], c ∉ [d] := by
    intro b hb c hc hd
    simp at hc hd
    subst hc; subst hd
    simp at hb
  cases x with
  | p b off =>
    cases hb : Nat.beq b d
    · rw [show Lf.scrub d (.p b off) = .p b off by simp only [Lf.scrub, hb, cond_false]]
      exact h.lf (x := .p b off) (key b hb) hr
    · rw [show Lf.scrub d (.p b off) = .un by simp only [Lf.scrub, hb, cond_true]]
      exact Lf.rel_one hr
  | o b =>
    cases hb : Nat.beq b d
    · rw [show Lf.scrub d (.o b) = .o b by simp only [Lf.scrub, hb, cond_false]]
      exact h.lf (x := .o b) (key b hb) hr
    · rw [show Lf.scrub d (.o b) = .un by simp only [Lf.scrub, hb, cond_true]]
      exact Lf.rel_one hr
  | pe b i s k =>
    cases hb : Nat.beq b d
    · rw [show Lf.scrub d (.pe b i s k) = .pe b i s k by simp only [Lf.scrub, hb, cond_false]]
      exact h.lf (x := .pe b i s k) (key b hb) hr
    · rw [show Lf.scrub d (.pe b i s k) = .un by simp only [Lf.scrub, hb, cond_true]]
      exact Lf.rel_one hr
  | px b i s k =>
    cases hb : Nat.beq b d
    · rw [show Lf.scrub d (.px b i s k) = .px b i s k by simp only [Lf.scrub, hb, cond_false]]
      exact h.lf (x := .px b i s k) (key b hb) hr
    · rw [show Lf.scrub d (.px b i s k) = .un by simp only [Lf.scrub, hb, cond_true]]
      exact Lf.rel_one hr
  | vw b lo n s =>
    cases hb : Nat.beq b d
    · rw [show Lf.scrub d (.vw b lo n s) = .vw b lo n s by simp only [Lf.scrub, hb, cond_false]]
      exact h.lf (x := .vw b lo n s) (key b hb) hr
    · rw [show Lf.scrub d (.vw b lo n s) = .un by simp only [Lf.scrub, hb, cond_true]]
      exact Lf.rel_one hr
  | fn f c =>
    cases hb : c.any (fun b => Nat.beq b d)
    · rw [show Lf.scrub d (.fn f c) = .fn f c by simp only [Lf.scrub, hb, cond_false]]
      refine h.lf (x := .fn f c) (fun b hbc hbd => ?_) hr
      rw [List.any_eq_false] at hb
      simp at hbd
      subst hbd
      exact hb b hbc (by simp)
    · rw [show Lf.scrub d (.fn f c) = .un by simp only [Lf.scrub, hb, cond_true]]
      exact Lf.rel_one hr
  | d t x => exact h.lf (x := .d t x) (by simp [Lf.names]) hr
  | nl => exact hr
  | np => exact hr
  | dp t x => exact h.lf (x := .dp t x) (by simp [Lf.names]) hr
  | nf => exact hr
  | un => exact hr
theorem Ext.lsS {Ft A : Nat → Prop} {G : Gh} {w : World} {A' : Nat → Prop} {G' : Gh} {w' : World} {d : Nat} (h : Ext Ft A G w A' G' w' [d]) : ∀ {xs : List Lf} {vs : List Value}, relL w G A xs vs → relL w' G' A' (xs.map (Lf.scrub d)) vs
  | [], vs, hr => hr
  | x :: xs, vs, hr => by obtain ⟨v, r, h1, h2, h3⟩ := hr; exact ⟨v, r, h1, h.lfS h2, h.lsS h3⟩
theorem Ext.eS {Ft A : Nat → Prop} {G : Gh} {w : World} {A' : Nat → Prop} {G' : Gh} {w' : World} {d : Nat} (h : Ext Ft A G w A' G' w' [d]) {x : Bool × List Lf} {v : Value} (hr : relE w G A x v) : relE w' G' A' (x.1, x.2.map (Lf.scrub d)) v := by
  obtain ⟨vs, h1, h2, h3⟩ := hr; exact ⟨vs, h.lsS h1, h2, h3⟩
theorem Ext.tuS {Ft A : Nat → Prop} {G : Gh} {w : World} {A' : Nat → Prop} {G' : Gh} {w' : World} {d : Nat} (h : Ext Ft A G w A' G' w' [d]) : ∀ {xs : List (Bool × List Lf)} {vs : List Value}, relT w G A xs vs → relT w' G' A' (xs.map fun e => (e.1, e.2.map (Lf.scrub d))) vs
  | [], vs, hr => hr
  | x :: xs, vs, hr => by obtain ⟨v, r, h1, h2, h3⟩ := hr; exact ⟨v, r, h1, h.eS h2, h.tuS h3⟩
theorem Ext.avS {Ft A : Nat → Prop} {G : Gh} {w : World} {A' : Nat → Prop} {G' : Gh} {w' : World} {d : Nat} (h : Ext Ft A G w A' G' w' [d]) {x : AV} {v : Value} (hr : x.rel w G A v) : (x.scrub d).rel w' G' A' v := by
  cases x with
  | v agg ls => exact h.eS (x := (agg, ls)) hr
  | tu es => obtain ⟨vs, h1, h2⟩ := hr; exact ⟨vs, h1, h.tuS h2⟩
  | un => trivial

theorem Sat.extS {Ft A : Nat → Prop} {G : Gh} {w : World} {A' : Nat → Prop} {G' : Gh} {w' : World} {d : Nat} {b : Nat} {ob : Ob} (h : Sat w G A b ob) (e : Ext Ft A G w A' G' w' [d])
    (hb : b ≠ d) (hk : ∀ k, G.f b k → w'.heap[k]? = w.heap[k]?) (hf : ∀ k, G'.f b k ↔ G.f b k) : Sat w' G' A' b (ob.scrub d) := by
  have hr := e.r b (by simpa using hb)
  cases ob with
  | box T cs =>
    obtain ⟨g, vs, h1, h2, h3, h4⟩ := h
    exact ⟨g, vs, hr.trans h1, (hk g ((h4 g).2 rfl)).trans h2, e.lsS h3, fun k => (hf k).trans (h4 k)⟩
  | arr E n cs =>
    obtain ⟨g, vs, h1, h0, h2, h3, h4⟩ := h
    exact ⟨g, vs, hr.trans h1, h0, (hk g ((h4 g).2 rfl)).trans h2, e.lsS h3, fun k => (hf k).trans (h4 k)⟩
  | row E t l =>
    obtain ⟨vs, h1, h2, h3⟩ := h
    refine ⟨vs, rdL_mono e.only.size (fun k hk' hl => ⟨e.keepA k hl hk', e.only.block k hl (e.apart k hk')⟩) h1, ?_, fun k => by rw [hr]; exact (hf k).trans (h3 k)⟩
    rw [hr]
    obtain ⟨q1, q2⟩ := h2
    refine ⟨q1, ?_⟩
    rcases q2 with q2 | ⟨g, cap, cur, q3, q4, q5, q6⟩
    · exact .inl q2
    · exact .inr ⟨g, cap, cur, q3, q4, (hk g ((h3 g).2 (by rw [q3]; rfl))).trans q5, q6⟩
  | rox E t l1 cs l2 =>
    obtain ⟨v1, c, v2, h1, h5, h6, h7, h2, h3⟩ := h
    have mono : ∀ {l : List t.den} {vs : List Value}, rdL w A t l vs → rdL w' A' t l vs := fun hh => rdL_mono e.only.size (fun k hk' hl => ⟨e.keepA k hl hk', e.only.block k hl (e.apart k hk')⟩) hh
    refine ⟨v1, c, v2, mono h1, e.lsS h5, h6, mono h7, ?_, fun k => by rw [hr]; exact (hf k).trans (h3 k)⟩
    rw [hr]
    obtain ⟨q1, q2⟩ := h2
    refine ⟨q1, ?_⟩
    rcases q2 with q2 | ⟨g, cap, cur, q3, q4, q5, q6⟩
    · exact .inl q2
    · exact .inr ⟨g, cap, cur, q3, q4, (hk g ((h3 g).2 (by rw [q3]; rfl))).trans q5, q6⟩
  | bld T e0 l =>
    obtain ⟨g, p, v, h1, h2, h3, h4, h5, h6⟩ := h
    refine ⟨g, p, v, hr.trans h1, h2, (hk g ((h6 g).2 (.inl rfl))).trans h3, ?_, h5, fun k => (hf k).trans (h6 k)⟩
    obtain ⟨q1, q2⟩ := h4
    refine ⟨q1, ?_⟩
    rcases q2 with q2 | ⟨g', cap, cur, q3, q4, q5, q6⟩
    · exact .inl q2
    · exact .inr ⟨g', cap, cur, q3, q4, (hk g' ((h6 g').2 (.inr (by rw [q3]; rfl)))).trans q5, q6⟩

/-- the heap without the names b and d, and d not spoken of -/
def scrH (hp : Nat → Option Ob) (b d : Nat) : Nat → Option Ob := fun c => if c = b ∨ c = d then none else (hp c).map (Ob.scrub d)

theorem scrH_some {hp : Nat → Option Ob} {b d c : Nat} {oc : Ob} (h : scrH hp b d c = some oc) : c ≠ b ∧ c ≠ d ∧ ∃ o0, hp c = some o0 ∧ oc = o0.scrub d := by
  unfold scrH at h
  split at h
  · cases h
  · rename_i hn
    rw [Option.map_eq_some_iff] at h
    obtain ⟨o0, h1, h2⟩ := h
    exact ⟨fun e => hn (.inl e), fun e => hn (.inr e), o0, h1, h2.symm⟩

/-- an object with the name d comes, in new blocks or in those of b, which goes -/
theorem grow_step {F : Fr} {hp : Nat → Option Ob} {G : Gh} {w w' : World} (h : RepH F hp G w) (b d : Nat) (hv : Value) (Fo : Nat → Prop) (ob : Ob)
    (hold : ∀ k, Fo k → k < w.heap.size → ∃ o0, hp b = some o0 ∧ G.f b k) (hlt : ∀ k, Fo k → k < w'.heap.size)
    (ho : Only (fun k => ∃ o0, hp b = some o0 ∧ G.f b k) w w')
    (hs : ∀ A' G', G'.r d = hv → (∀ k, G'.f d k ↔ Fo k) → (∀ k, w.heap.size ≤ k → k < w'.heap.size → ¬ Fo k → A' k) → Ext (Foot hp G) (Okay F hp G) G w A' G' w' [d] → Sat w' G' A' d ob) :
    ∃ G', Ext (Foot hp G) (Okay F hp G) G w (Okay F (upd (scrH hp b d) d (some ob)) G') G' w' [d] ∧ RepH F (upd (scrH hp b d) d (some ob)) G' w' ∧ G'.r d = hv := by
  let G' : Gh := ⟨upd G.r d hv, upd G.f d Fo⟩
  have hfd : ∀ k, G'.f d k ↔ Fo k := fun k => by show upd G.f d _ d k ↔ _; rw [upd_same]
  have hfo : ∀ c, c ≠ d → ∀ k, G'.f c k ↔ G.f c k := fun c hc k => by show upd G.f d _ c k ↔ _; rw [upd_ne _ _ hc]
  have hother : ∀ c oc, c ≠ d → upd (scrH hp b d) d (some ob) c = some oc → c ≠ b ∧ ∃ o0, hp c = some o0 ∧ oc = o0.scrub d := by
    intro c oc hc hh
    rw [upd_ne _ _ hc] at hh
    obtain ⟨h1, _, h3⟩ := scrH_some hh
    exact ⟨h1, h3⟩
  have hfoot : ∀ k, k < w.heap.size → Foot (upd (scrH hp b d) d (some ob)) G' k → Foot hp G k := by
    rintro k hk ⟨c, oc, h1, h2⟩
    by_cases hc : c = d
    · subst hc
      obtain ⟨o0, q1, q2⟩ := hold k ((hfd k).1 h2) hk
      exact ⟨b, o0, q1, q2⟩
    · obtain ⟨_, o0, q1, _⟩ := hother c oc hc h1
      exact ⟨c, o0, q1, (hfo c hc k).1 h2⟩
  have hon : Only (Foot hp G) w w' := ⟨ho.os, ho.tape, ho.output, ho.size, fun k hk hn => ho.block k hk (fun ⟨o0, q1, q2⟩ => hn ⟨b, o0, q1, q2⟩)⟩
  have hx : Ext (Foot hp G) (Okay F hp G) G w (Okay F (upd (scrH hp b d) d (some ob)) G') G' w' [d] := by
    refine ⟨hon, fun k hk ⟨h1, h2⟩ => ⟨h1, fun h3 => h2 (hfoot k hk h3)⟩, Okay.apart, fun c hc => ?_⟩
    show upd G.r d hv c = G.r c
    exact upd_ne _ _ (by simpa using hc)
  refine ⟨G', hx, ⟨?_, ?_, ?_, ?_, h.zs, h.tb⟩, upd_same _ _ _⟩
  · intro c oc hc'
    by_cases hc : c = d
    · subst hc
      rw [upd_same] at hc'
      cases hc'
      refine hs _ G' (upd_same _ _ _) hfd (fun k k1 k2 k3 => ?_) hx
      refine ⟨.inr (Nat.le_trans h.size k1), ?_⟩
      rintro ⟨e, oe, h1, h2⟩
      by_cases he : e = c
      · subst he; exact k3 ((hfd k).1 h2)
      · obtain ⟨_, o0, q1, _⟩ := hother e oe he h1
        have := (h.bd e o0 q1 k ((hfo e he k).1 h2)).1
        omega
    · obtain ⟨hcb, o0, q1, rfl⟩ := hother c oc hc hc'
      refine (h.sat c o0 q1).extS hx hc (fun k hk => ho.block k (h.bd c o0 q1 k hk).1 ?_) (hfo c hc)
      rintro ⟨ob0, r1, r2⟩
      exact h.dj c b o0 ob0 hcb q1 r1 k hk r2
  · have one : ∀ c oc, c ≠ d → upd (scrH hp b d) d (some ob) c = some oc → ∀ k, G'.f c k → ¬ G'.f d k := by
      intro c oc hc h1 k k1 k2
      obtain ⟨hcb, o0, q1, _⟩ := hother c oc hc h1
      have k1' := (hfo c hc k).1 k1
      obtain ⟨ob0, r1, r2⟩ := hold k ((hfd k).1 k2) (h.bd c o0 q1 k k1').1
      exact h.dj c b o0 ob0 hcb q1 r1 k k1' r2
    intro c1 c2 o1 o2 hne h1 h2 k k1 k2
    by_cases e1 : c1 = d
    · subst e1
      exact one c2 o2 (Ne.symm hne) h2 k k2 k1
    · by_cases e2 : c2 = d
      · subst e2
        exact one c1 o1 hne h1 k k1 k2
      · obtain ⟨_, p1, q1, _⟩ := hother c1 o1 e1 h1
        obtain ⟨_, p2, q2, _⟩ := hother c2 o2 e2 h2
        exact h.dj c1 c2 p1 p2 hne q1 q2 k ((hfo c1 e1 k).1 k1) ((hfo c2 e2 k).1 k2)
  · intro c oc hc' k hk
    by_cases hc : c = d
    · subst hc
      have q := (hfd k).1 hk
      refine ⟨hlt k q, ?_⟩
      rcases Nat.lt_or_ge k w.heap.size with hl | hl
      · obtain ⟨o0, r1, r2⟩ := hold k q hl
        exact (h.bd b o0 r1 k r2).2
      · exact .inr (Nat.le_trans h.size hl)
    · obtain ⟨_, o0, q1, _⟩ := hother c oc hc hc'
      have := h.bd c o0 q1 k ((hfo c hc k).1 hk)
      exact ⟨Nat.lt_of_lt_of_le this.1 ho.size, this.2⟩
  · exact ⟨hon.os.trans h.fr.os, hon.tape.trans h.fr.tape, hon.output.trans h.fr.output, Nat.le_trans h.fr.size hon.size, fun k hk hn => by
      refine (hon.block k (Nat.lt_of_lt_of_le hk h.fr.size) ?_).trans (h.fr.block k hk hn)
      intro hf
      rcases h.at hf with q | q
      · exact hn q
      · omega⟩

/-- a block that is made -/
theorem alloc_step {F : Fr} {hp : Nat → Option Ob} {G : Gh} {w : World} (h : RepH F hp G w) (d : Nat) (hv : Value) (vs : Array Value) (T : TypeId) (ob : Ob)
    (hs : ∀ A' G', G'.r d = hv → (∀ k, G'.f d k ↔ k = w.heap.size) → Ext (Foot hp G) (Okay F hp G) G w A' G' (w.alloc (.cells vs T)) [d] → Sat (w.alloc (.cells vs T)) G' A' d ob) :
    ∃ G', Ext (Foot hp G) (Okay F hp G) G w (Okay F (upd (scrH hp d d) d (some ob)) G') G' (w.alloc (.cells vs T)) [d] ∧ RepH F (upd (scrH hp d d) d (some ob)) G' (w.alloc (.cells vs T)) ∧ G'.r d = hv :=
  grow_step h d d hv (fun k => k = w.heap.size) ob (fun k hk hl => absurd hl (by omega)) (fun k hk => by simp; omega) ((Only.refl _ _).alloc _) (fun A' G' h1 h2 _ h4 => hs A' G' h1 h2 h4)

/-- a change within the block of one object -/
theorem write_step {F : Fr} {hp : Nat → Option Ob} {G : Gh} {w w' : World} (h : RepH F hp G w) (b : Nat) (ob ob' : Ob) (hb : hp b = some ob)
    (ho : Only (G.f b) w w') (hs : Ext (Foot hp G) (Okay F hp G) G w (Okay F hp G) G w' [] → Sat w' G (Okay F hp G) b ob') :
    Ext (Foot hp G) (Okay F hp G) G w (Okay F (upd hp b (some ob')) G) G w' [] ∧ RepH F (upd hp b (some ob')) G w' := by
  have hfoot : ∀ k, Foot (upd hp b (some ob')) G k ↔ Foot hp G k := by
    intro k
    constructor
    · rintro ⟨c, oc, h1, h2⟩
      by_cases hc : c = b
      · subst hc; exact ⟨c, ob, hb, h2⟩
      · rw [upd_ne _ _ hc] at h1; exact ⟨c, oc, h1, h2⟩
    · rintro ⟨c, oc, h1, h2⟩
      by_cases hc : c = b
      · subst hc; exact ⟨c, ob', upd_same _ _ _, h2⟩
      · exact ⟨c, oc, by rw [upd_ne _ _ hc]; exact h1, h2⟩
  have hok : Okay F (upd hp b (some ob')) G = Okay F hp G := by
    funext k
    simp only [Okay, hfoot k]
  have hon : Only (Foot hp G) w w' := ⟨ho.os, ho.tape, ho.output, ho.size, fun k hk hn => ho.block k hk (fun hf => hn ⟨b, ob, hb, hf⟩)⟩
  have hx : Ext (Foot hp G) (Okay F hp G) G w (Okay F hp G) G w' [] := ⟨hon, fun _ _ h => h, Okay.apart, fun _ _ => rfl⟩
  rw [hok]
  refine ⟨hx, ⟨?_, ?_, ?_, ?_, h.zs, h.tb⟩⟩
  · intro c oc hc
    rw [hok]
    by_cases e : c = b
    · subst e
      rw [upd_same] at hc
      cases hc
      exact hs hx
    · rw [upd_ne _ _ e] at hc
      exact (h.sat c oc hc).ext hx (by simp) (by simp) (fun k hk => ho.block k (h.bd c oc hc k hk).1 (fun hf => h.dj c b oc ob e hc hb k hk hf)) (fun _ => Iff.rfl)
  · intro c1 c2 o1 o2 hne h1 h2 k k1 k2
    have q1 : ∃ o, hp c1 = some o := by
      by_cases e : c1 = b
      · subst e; exact ⟨_, hb⟩
      · rw [upd_ne _ _ e] at h1; exact ⟨_, h1⟩
    have q2 : ∃ o, hp c2 = some o := by
      by_cases e : c2 = b
      · subst e; exact ⟨_, hb⟩
      · rw [upd_ne _ _ e] at h2; exact ⟨_, h2⟩
    obtain ⟨p1, q1⟩ := q1
    obtain ⟨p2, q2⟩ := q2
    exact h.dj c1 c2 p1 p2 hne q1 q2 k k1 k2
  · intro c oc hc k hk
    have q1 : ∃ o, hp c = some o := by
      by_cases e : c = b
      · subst e; exact ⟨_, hb⟩
      · rw [upd_ne _ _ e] at hc; exact ⟨_, hc⟩
    obtain ⟨p1, q1⟩ := q1
    have := h.bd c p1 q1 k hk
    exact ⟨Nat.lt_of_lt_of_le this.1 ho.size, this.2⟩
  · exact ⟨hon.os.trans h.fr.os, hon.tape.trans h.fr.tape, hon.output.trans h.fr.output, Nat.le_trans h.fr.size hon.size, fun k hk hn => by
      refine (hon.block k (Nat.lt_of_lt_of_le hk h.fr.size) ?_).trans (h.fr.block k hk hn)
      intro hf
      rcases h.at hf with q | q
      · exact hn q
      · omega⟩

/-- a world that has only drawn -/
theorem RepH.drewN {F : Fr} {hp : Nat → Option Ob} {G : Gh} {w : World} (h : RepH F hp G w) (n : Nat) : RepH F hp G (w.drewN n) := by
  have hx : Ext (Foot hp G) (Okay F hp G) G w (Okay F hp G) G (w.drewN n) [] := ⟨(Only.refl _ _).drewN n, fun _ _ h => h, Okay.apart, fun _ _ => rfl⟩
  exact ⟨fun b ob hb => (h.sat b ob hb).ext hx (by simp) (by simp) (fun _ _ => rfl) (fun _ => Iff.rfl), h.dj, h.bd, h.fr.drewN n, h.zs, h.tb⟩

/-- a name that is let go -/
theorem drop_step {F : Fr} {hp : Nat → Option Ob} {G : Gh} {w : World} (h : RepH F hp G w) (b : Nat) :
    Ext (Foot hp G) (Okay F hp G) G w (Okay F (upd hp b none) G) G w [] ∧ RepH F (upd hp b none) G w := by
  have hfoot : ∀ k, Foot (upd hp b none) G k → Foot hp G k := by
    rintro k ⟨c, oc, h1, h2⟩
    by_cases hc : c = b
    · subst hc; rw [upd_same] at h1; cases h1
    · rw [upd_ne _ _ hc] at h1; exact ⟨c, oc, h1, h2⟩
  have hget : ∀ c oc, upd hp b none c = some oc → c ≠ b ∧ hp c = some oc := by
    intro c oc hc
    by_cases e : c = b
    · subst e; rw [upd_same] at hc; cases hc
    · rw [upd_ne _ _ e] at hc; exact ⟨e, hc⟩
  have hx : Ext (Foot hp G) (Okay F hp G) G w (Okay F (upd hp b none) G) G w [] := ⟨Only.refl _ _, fun k _ ⟨h1, h2⟩ => ⟨h1, fun h3 => h2 (hfoot k h3)⟩, Okay.apart, fun _ _ => rfl⟩
  exact ⟨hx, ⟨fun c oc hc => (h.sat c oc (hget c oc hc).2).ext hx (by simp) (by simp) (fun _ _ => rfl) (fun _ => Iff.rfl),
    fun c1 c2 o1 o2 hne h1 h2 => h.dj c1 c2 o1 o2 hne (hget _ _ h1).2 (hget _ _ h2).2, fun c oc hc => h.bd c oc (hget _ _ hc).2, h.fr, h.zs, h.tb⟩⟩

/-! part SxC -/
inductive TK where
  | slice (e : TypeId)
  | array (n : Nat) (e : TypeId)
  | struct (fs : List (Nat × TypeId))
  | int (k : IntKind)
  | str
  | bool
  | other

/-- a type as the steps see it -/
structure TI where
  size : Nat
  agg : Bool
  bytes : Nat
  kind : TK
  zc : List Value
  ty : Option Ty

def aggD : TypeDesc → Bool
  | .struct _ => true
  | .array _ _ => true
  | _ => false

def TK.ok (d : TypeDesc) (agg : Bool) : TK → Prop
  | .slice e => d = .slice e ∧ agg = false
  | .array n e => d = .array n e ∧ agg = true
  | .struct fs => agg = true ∧ ∃ a : Array Field, d = .struct a ∧ a.toList.map (fun f => (f.offset, f.type)) = fs
  | .int k => d = .int k ∧ agg = false
  | .str => d = .string ∧ agg = false
  | .bool => d = .bool ∧ agg = false
  | .other => aggD d = agg

structure TI.ok (P : Program) (t : TypeId) (i : TI) : Prop where
  inf : (P.info? t).map (fun j => (j.zero, j.size, j.bytes)) = some (some (mkV i.agg i.zc), i.size, i.bytes)
  und : ∃ d, P.underlying t = some d ∧ i.kind.ok d i.agg
  z : i.zc.length = i.size ∧ i.zc.all (fun u => u.oneCell') = true

def lfOf : Value → Lf
  | .int k n => bif decide (k.min ≤ n ∧ n ≤ k.max) then .d (.int k) n else .un
  | .bool b => .d .bool b
  | .string s => bif Nat.ble s.size 1000000 then .d .str s else .un
  | .slice none 0 0 => .nl
  | .pointer none => .np
  | .nilFunc => .nf
  | _ => .un

theorem lfOf_rel (w : World) (G : Gh) (A : Nat → Prop) (v : Value) (h : v.oneCell' = true) : (lfOf v).rel w G A v := by
  unfold lfOf
  split
  · rename_i k n
    by_cases hk : k.min ≤ n ∧ n ≤ k.max
    · simp only [hk, and_self, decide_true, cond_true]; exact ⟨rfl, hk⟩
    · simp only [decide_eq_false hk, cond_false]; exact h
  · rfl
  · rename_i s
    by_cases hk : s.size ≤ 1000000
    · rw [show Nat.ble s.size 1000000 = true from Nat.ble_eq_true_of_le hk]; exact ⟨rfl, Nat.le_trans hk (by decide)⟩
    · rw [show Nat.ble s.size 1000000 = false by rw [Bool.eq_false_iff]; intro e; exact hk (Nat.le_of_ble_eq_true e)]; exact h
  all_goals first | rfl | exact h

theorem lfOf_rels (w : World) (G : Gh) (A : Nat → Prop) : ∀ (vs : List Value), vs.all (fun u => u.oneCell') = true → relL w G A (vs.map lfOf) vs
  | [], _ => rfl
  | v :: vs, h => by
    simp only [List.all_cons, Bool.and_eq_true] at h
    exact ⟨v, vs, rfl, lfOf_rel w G A v h.1, lfOf_rels w G A vs h.2⟩

/-- the cells of data -/
def Ty.leaves : (t : Ty) → t.den → List Lf
  | .pair a b, x => a.leaves x.1 ++ b.leaves x.2
  | .st a, x => a.leaves x
  | .int k, x => [.d (.int k) x]
  | .bool, x => [.d .bool x]
  | .str, x => [.d .str x]
  | .slice e, x => [.d (.slice e) x]
def Ty.isSt : Ty → Bool
  | .st _ => true
  | _ => false

theorem relL_single {w : World} {G : Gh} {A : Nat → Prop} {x : Lf} {v : Value} (h : x.rel w G A v) : relL w G A [x] [v] := ⟨v, [], rfl, h, rfl⟩

theorem leaves_rel {w : World} {G : Gh} {A : Nat → Prop} : ∀ (t : Ty) (x : t.den) (cs : List Value), t.rd w A x cs → relL w G A (t.leaves x) cs
  | .pair a b, x, cs, h => by
    obtain ⟨c1, c2, rfl, h1, h2⟩ := h
    exact relL_append (leaves_rel a _ _ h1) (leaves_rel b _ _ h2)
  | .st a, x, cs, h => leaves_rel a x cs h
  | .int k, x, cs, h => by obtain ⟨rfl, h'⟩ := h; exact relL_single (x := .d (.int k) x) ⟨rfl, h'⟩
  | .bool, x, cs, h => by obtain rfl := (show cs = _ from h); exact relL_single (x := .d .bool x) rfl
  | .str, x, cs, h => by obtain ⟨rfl, h'⟩ := h; exact relL_single (x := .d .str x) ⟨rfl, h'⟩
  | .slice e, x, cs, h => by
    have h0 := h
    obtain ⟨ao, cap, rfl, _⟩ := h
    exact relL_single (x := .d (.slice e) x) h0
theorem leaves_len : ∀ (t : Ty) (x : t.den), (t.leaves x).length = t.size
  | .pair a b, x => by simp [Ty.leaves, Ty.size, leaves_len a, leaves_len b]
  | .st a, x => by simp only [Ty.leaves, Ty.size]; exact leaves_len a x
  | .int k, x => rfl
  | .bool, x => rfl
  | .str, x => rfl
  | .slice e, x => rfl

/-- the part of data at a cell -/
def Ty.comp : (t : Ty) → t.den → Nat → Option ((u : Ty) × u.den)
  | .pair a b, x, off => bif Nat.blt off a.size then a.comp x.1 off else b.comp x.2 (off - a.size)
  | .st a, x, off => bif Nat.beq off 0 then some ⟨.st a, x⟩ else a.comp x off
  | .int k, x, off => bif Nat.beq off 0 then some ⟨.int k, x⟩ else none
  | .bool, x, off => bif Nat.beq off 0 then some ⟨.bool, x⟩ else none
  | .str, x, off => bif Nat.beq off 0 then some ⟨.str, x⟩ else none
  | .slice e, x, off => bif Nat.beq off 0 then some ⟨.slice e, x⟩ else none
theorem comp_leaf {w : World} {A : Nat → Prop} {t : Ty} {x : t.den} {cs : List Value} {off : Nat} {u : Ty} {y : u.den} (h : t.rd w A x cs) (e : (bif Nat.beq off 0 then (some ⟨t, x⟩ : Option ((u : Ty) × u.den)) else none) = some ⟨u, y⟩) :
    ∃ c1 c2 c3, cs = c1 ++ (c2 ++ c3) ∧ c1.length = off ∧ u.rd w A y c2 := by
  cases h0 : Nat.beq off 0
  · rw [h0] at e; cases e
  · rw [h0] at e
    simp only [cond_true, Option.some.injEq] at e
    cases e
    have := Nat.eq_of_beq_eq_true h0
    subst this
    exact ⟨[], cs, [], by simp, rfl, h⟩
theorem comp_rd {w : World} {A : Nat → Prop} : ∀ (t : Ty) (x : t.den) (cs : List Value) (off : Nat) (u : Ty) (y : u.den), t.rd w A x cs → t.comp x off = some ⟨u, y⟩ → ∃ c1 c2 c3, cs = c1 ++ (c2 ++ c3) ∧ c1.length = off ∧ u.rd w A y c2
  | .pair a b, x, cs, off, u, y, h, e => by
    obtain ⟨q1, q2, rfl, h1, h2⟩ := h
    have hl := Ty.rd_len a _ _ h1
    unfold Ty.comp at e
    cases h0 : Nat.blt off a.size
    · rw [h0] at e
      simp only [cond_false] at e
      obtain ⟨c1, c2, c3, rfl, k1, k2⟩ := comp_rd b _ _ _ u y h2 e
      have : ¬ off < a.size := fun hh => by rw [show Nat.blt off a.size = true from Nat.ble_eq_true_of_le hh] at h0; cases h0
      exact ⟨q1 ++ c1, c2, c3, by simp, by rw [List.length_append, hl, k1]; omega, k2⟩
    · rw [h0] at e
      simp only [cond_true] at e
      obtain ⟨c1, c2, c3, rfl, k1, k2⟩ := comp_rd a _ _ _ u y h1 e
      exact ⟨c1, c2, c3 ++ q2, by simp, k1, k2⟩
  | .st a, x, cs, off, u, y, h, e => by
    unfold Ty.comp at e
    cases h0 : Nat.beq off 0
    · rw [h0] at e
      simp only [cond_false] at e
      exact comp_rd a x cs off u y h e
    · exact comp_leaf (t := .st a) (x := x) h (by rw [h0] at e ⊢; exact e)
  | .int k, x, cs, off, u, y, h, e => comp_leaf h e
  | .bool, x, cs, off, u, y, h, e => comp_leaf h e
  | .str, x, cs, off, u, y, h, e => comp_leaf h e
  | .slice k, x, cs, off, u, y, h, e => comp_leaf h e

/-- an operation runs, and R is what follows -/
def Runs (P : Program) (ρ : Operand → Value) (o : Oper) (w : World) (R : Value → World → Prop) : Prop :=
  match (execOp ρ o).run P w with
  | .ok (.value v) w' => R v w'
  | .ok .skip w' => R undef w'
  | .ok (.enter f args) w' => Calls P f args w' fun e w'' => ∃ v, e = .returned v ∧ R v w''
  | _ => False

theorem Runs.wp {P : Program} {o : Oper} {a : Act} {w : World} {R : Value → World → Prop} {K : Act → World → Prop} {Q : Exit → Act → World → Prop} (h : Runs P a.eval o w R) (hk : ∀ v w', R v w' → K (a.put o.dst v) w') : Oper.wp P o a w K Q := by
  unfold Runs at h
  unfold Oper.wp
  split at h
  · rename_i e; rw [e]; exact hk _ _ h
  · rename_i e; rw [e]; exact hk _ _ h
  · rename_i e; rw [e]
    refine Calls.mono h ?_
    rintro e w' ⟨v, rfl, hr⟩
    exact hk _ _ hr
  · exact h.elim

theorem Runs.of_ok {P : Program} {ρ : Operand → Value} {o : Oper} {w : World} {R : Value → World → Prop} {v : Value} {w' : World} (h : (execOp ρ o).run P w = .ok (.value v) w') (hR : R v w') : Runs P ρ o w R := by
  unfold Runs; rw [h]; exact hR
theorem Runs.of_skip {P : Program} {ρ : Operand → Value} {o : Oper} {w : World} {R : Value → World → Prop} {w' : World} (h : (execOp ρ o).run P w = .ok .skip w') (hR : R undef w') : Runs P ρ o w R := by
  unfold Runs; rw [h]; exact hR

/-- what follows a step, in the state's words: the heap behind it, the value; d: the name that is new, if one is -/
def Aft (F : Fr) (hp : Nat → Option Ob) (G : Gh) (w : World) (hp' : Nat → Option Ob) (x : AV) (nw : List Nat) (v : Value) (w' : World) : Prop :=
  ∃ G', Ext (Foot hp G) (Okay F hp G) G w (Okay F hp' G') G' w' nw ∧ RepH F hp' G' w' ∧ x.rel w' G' (Okay F hp' G') v

theorem Aft.still {F : Fr} {hp : Nat → Option Ob} {G : Gh} {w : World} {x : AV} {v : Value} (h : RepH F hp G w) (hx : x.rel w G (Okay F hp G) v) : Aft F hp G w hp x [] v w :=
  ⟨G, Ext.refl _ _ _ _ Okay.apart, h, hx⟩

def AV.one : AV → Option Lf
  | .v false [x] => some x
  | _ => none
theorem AV.one_eq {x : AV} {l : Lf} (h : x.one = some l) : x = .v false [l] := by
  unfold AV.one at h
  split at h
  · cases h; rfl
  · cases h
theorem rel_one_iff {w : World} {G : Gh} {A : Nat → Prop} {l : Lf} {v : Value} : (AV.v false [l]).rel w G A v ↔ l.rel w G A v := by
  constructor
  · rintro ⟨vs, ⟨u, r, rfl, h1, h2⟩, rfl, _⟩
    exact h1
  · intro h
    exact ⟨[v], relL_single h, rfl, fun _ => rfl⟩
theorem AV.one_rel {w : World} {G : Gh} {A : Nat → Prop} {x : AV} {l : Lf} {v : Value} (h : x.one = some l) (hr : x.rel w G A v) : l.rel w G A v := by
  rw [AV.one_eq h] at hr; exact rel_one_iff.1 hr
theorem AV.rel_of {w : World} {G : Gh} {A : Nat → Prop} {l : Lf} {v : Value} (h : l.rel w G A v) : (AV.v false [l]).rel w G A v := rel_one_iff.2 h

/-! ### addresses, loads -/
def cField (off : Nat) : Lf → Option Lf
  | .p b o => some (.p b (o + off))
  | .pe b i s k => some (.pe b i s (k + off))
  | .px b i s k => some (.px b i s (k + off))
  | .dp (.st t) x => match t.comp x off with
    | some ⟨u, y⟩ => some (.dp u y)
    | none => none
  | _ => none

theorem cField_rel {w : World} {G : Gh} {A : Nat → Prop} {off : Nat} {x y : Lf} {v : Value} (e : cField off x = some y) (h : x.rel w G A v) :
    ∃ g o, v = .pointer (some ⟨g, o, none⟩) ∧ y.rel w G A (.pointer (some ⟨g, o + off, none⟩)) := by
  unfold cField at e
  split at e
  · cases e
    obtain ⟨g, h1, rfl⟩ := h
    exact ⟨g, _, rfl, g, h1, rfl⟩
  · cases e
    obtain ⟨g, h1, rfl⟩ := h
    exact ⟨g, _, rfl, g, h1, by rw [Nat.add_assoc]⟩
  · cases e
    obtain ⟨g, h1, rfl⟩ := h
    exact ⟨g, _, rfl, g, h1, by rw [Nat.add_assoc]⟩
  · rename_i t x
    split at e
    · rename_i u y' hc
      cases e
      obtain ⟨g, o, cs, rfl, h1, h2, h3, h4⟩ := h
      obtain ⟨c1, c2, c3, rfl, k1, k2⟩ := comp_rd t x cs off u y' h3 hc
      refine ⟨g, o, rfl, g, o + off, c2, rfl, h1, h2, k2, fun j hj => ?_⟩
      have := h4 (off + j) (by simp; omega)
      rw [Nat.add_assoc, this]
      simp [← k1, hj]
    · cases e
  · cases e

/-! part SxD -/
theorem addr_add0 (b o k : Nat) : (⟨b, o, none⟩ : Addr).add k = ⟨b, o + k, none⟩ := addr_add b o k

theorem run_underlying {P : Program} {w : World} {t : TypeId} {d : TypeDesc} (h : P.underlying t = some d) : (underlying t).run P w = .ok d w := by
  simp [underlying, program, bind, Sem.bind, Sem.run, h, pure]
theorem run_size {P : Program} {w : World} {t : TypeId} {i : TI} (h : i.ok P t) : (sizeOf t).run P w = .ok i.size w := by
  have := h.inf
  cases hj : P.info? t with
  | none => rw [hj] at this; cases this
  | some j =>
    rw [hj] at this
    simp only [Option.map_some, Option.some.injEq, Prod.mk.injEq] at this
    simp [sizeOf, typeInfo, program, bind, Sem.bind, Sem.run, hj, pure, this.2.1]
theorem run_zero {P : Program} {w : World} {t : TypeId} {i : TI} (h : i.ok P t) : (zeroValue t).run P w = .ok (mkV i.agg i.zc) w := by
  have := h.inf
  cases hj : P.info? t with
  | none => rw [hj] at this; cases this
  | some j =>
    rw [hj] at this
    simp only [Option.map_some, Option.some.injEq, Prod.mk.injEq] at this
    simp [zeroValue, typeInfo, program, bind, Sem.bind, Sem.run, hj, pure, this.1]
theorem run_agg {P : Program} {w : World} {t : TypeId} {i : TI} (h : i.ok P t) : (isAgg t).run P w = .ok i.agg w := by
  obtain ⟨d, hd, hk⟩ := h.und
  have h1 : (isAgg t).run P w = .ok (aggD d) w := by
    simp only [isAgg, Sem.run_bind, run_underlying hd, Result.andThen_ok]
    cases d <;> rfl
  rw [h1]
  have h2 : aggD d = i.agg := by
    generalize i.kind = k at hk
    cases k with
    | slice e => obtain ⟨rfl, e⟩ := hk; rw [e]; rfl
    | array n e => obtain ⟨rfl, e⟩ := hk; rw [e]; rfl
    | struct fs => obtain ⟨e, a, rfl, _⟩ := hk; rw [e]; rfl
    | int k => obtain ⟨rfl, e⟩ := hk; rw [e]; rfl
    | str => obtain ⟨rfl, e⟩ := hk; rw [e]; rfl
    | bool => obtain ⟨rfl, e⟩ := hk; rw [e]; rfl
    | other => exact hk
  rw [h2]

theorem run_fieldAddr {P : Program} {ρ : Operand → Value} {o : Oper} {w : World} (s : TypeId) (x : Operand) (f : Nat) (ho : o.op = .fieldAddr s x f) {i j : TI} {fs : List (Nat × TypeId)} {off : Nat} {ft : TypeId}
    (hi : i.ok P s) (hk : i.kind = .struct fs) (hf : fs[f]? = some (off, ft)) (hj : j.ok P ft) (hz : j.size ≠ 0) {g q : Nat} (hx : ρ x = .pointer (some ⟨g, q, none⟩)) :
    (execOp ρ o).run P w = .ok (.value (.pointer (some ⟨g, q + off, none⟩))) w := by
  obtain ⟨d, hd, hkk⟩ := hi.und
  rw [hk] at hkk
  obtain ⟨_, a, rfl, rfl⟩ := hkk
  have hfa : ∃ fl, a[f]? = some fl ∧ fl.offset = off ∧ fl.type = ft := by
    rw [List.getElem?_map, Option.map_eq_some_iff] at hf
    obtain ⟨fl, h1, h2⟩ := hf
    simp only [Prod.mk.injEq] at h2
    exact ⟨fl, by simpa using h1, h2.1, h2.2⟩
  obtain ⟨fl, h1, rfl, rfl⟩ := hfa
  simp only [execOp, ho, Instr.fieldAt, Sem.run_bind, run_underlying hd, Result.andThen_ok, h1, hx, Instr.sureAddr, Sem.run_pure, fieldPlace, run_size hj, hz, if_false, addr_add0]

theorem run_loadCells {P : Program} {w : World} {g o : Nat} {vs : List Value} (h : ∀ j (hj : j < vs.length), w.cell? ⟨g, o + j, none⟩ = some vs[j]) : (loadCells ⟨g, o, none⟩ vs.length).run P w = .ok vs.toArray w :=
  run_loadCells_list (P := P) w ⟨g, o, none⟩ vs fun j v hj => by
    obtain ⟨hj', rfl⟩ := List.getElem?_eq_some_iff.1 hj
    rw [addr_add0]
    exact h j hj'

/-- a load of cells -/
theorem run_load {P : Program} {ρ : Operand → Value} {o : Oper} {w : World} (t : TypeId) (x : Operand) (ho : o.op = .load t x) {i : TI} (hi : i.ok P t) {g q : Nat} (hx : ρ x = .pointer (some ⟨g, q, none⟩))
    {vs : List Value} (hl : vs.length = i.size) (h1 : i.agg = false → i.size = 1) (h : ∀ j (hj : j < vs.length), w.cell? ⟨g, q + j, none⟩ = some vs[j]) :
    (execOp ρ o).run P w = .ok (.value (mkV i.agg vs)) w := by
  cases hagg : i.agg with
  | true =>
    have h1 := run_loadCells (P := P) h
    rw [hl] at h1
    simp only [execOp, ho, Instr.loadAt, Sem.run_bind, hx, Instr.sureAddr, Sem.run_pure, Result.andThen_ok, loadVar, run_agg hi, hagg, if_true, run_size hi, h1]
    rfl
  | false =>
    obtain ⟨v, rfl⟩ : ∃ v, vs = [v] := by
      have := h1 hagg
      rw [this] at hl
      match vs, hl with
      | [v], _ => exact ⟨v, rfl⟩
    have h0 := h 0 (by simp)
    simp only [Nat.add_zero, List.getElem_cons_zero] at h0
    simp only [execOp, ho, Instr.loadAt, Sem.run_bind, hx, Instr.sureAddr, Sem.run_pure, Result.andThen_ok, loadVar, run_agg hi, hagg, Bool.false_eq_true, if_false, load, Sem.run, h0]
    rfl

/-- an element of an open row that is not the open one -/
def roxAt (t : Ty) (l1 l2 : List t.den) (n : Nat) : t.den := if n < l1.length then l1.getD n t.dflt else l2.getD (n - (l1.length + 1)) t.dflt
/-- a load, in the state's words -/
def cLoad (i : TI) (hp : Nat → Option Ob) : Lf → Option (Prop × AV)
  | .p b o => match hp b with
    | some (.box _ cs) => bif Nat.ble (o + i.size) cs.length then some (True, .v i.agg ((cs.drop o).take i.size)) else none
    | _ => none
  | .dp t x => bif Nat.beq t.size i.size && (t.isSt == i.agg) then some (True, .v i.agg (t.leaves x)) else none
  | .pe b n s k => match hp b with
    | some (.row _ t l) => bif Nat.beq s t.size then
        (bif Nat.beq k 0 && (Nat.beq t.size i.size && (t.isSt == i.agg)) then some (n < l.length, .v i.agg (t.leaves (l.getD n t.dflt)))
        else match t, l with
          | .st t, l => match t.comp (l.getD n t.dflt) k with
            | some ⟨u, y⟩ => bif Nat.beq u.size i.size && (u.isSt == i.agg) then some (n < l.length, .v i.agg (u.leaves y)) else none
            | none => none
          | _, _ => none) else none
    | some (.arr _ _ cs) => bif Nat.ble (n * s + k + i.size) cs.length then some (True, .v i.agg ((cs.drop (n * s + k)).take i.size)) else none
    | some (.rox _ t l1 _ l2) => bif Nat.beq s t.size && (Nat.beq k 0 && (Nat.beq t.size i.size && (t.isSt == i.agg))) then some (n ≠ l1.length ∧ n < l1.length + 1 + l2.length, .v i.agg (t.leaves (roxAt t l1 l2 n))) else none
    | _ => none
  | .px b n s k => match hp b with
    | some (.rox _ t l1 cs _) => bif Nat.beq s t.size && Nat.ble (k + i.size) cs.length then some (n = l1.length, .v i.agg ((cs.drop k).take i.size)) else none
    | _ => none
  | _ => none

theorem cells_block {w : World} {g : Nat} {vs : Array Value} {T : TypeId} (h : w.heap[g]? = some (.cells vs T (0, 0))) (o n : Nat) (hle : o + n ≤ vs.toList.length) :
    ((vs.toList.drop o).take n).length = n ∧ ∀ j (hj : j < ((vs.toList.drop o).take n).length), w.cell? ⟨g, o + j, none⟩ = some ((vs.toList.drop o).take n)[j] := by
  refine ⟨by rw [List.length_take, List.length_drop]; omega, fun j hj => ?_⟩
  rw [cell_of_row w g (o + j) vs T (0, 0) h]
  rw [List.getElem_take, List.getElem_drop]
  rw [List.length_take, List.length_drop] at hj
  rw [← Array.getElem?_toList, List.getElem?_eq_getElem (by omega)]

theorem relE_mk {w : World} {G : Gh} {A : Nat → Prop} {agg : Bool} {ls : List Lf} {vs : List Value} (h : relL w G A ls vs) (h1 : agg = false → vs.length = 1) : (AV.v agg ls).rel w G A (mkV agg vs) := ⟨vs, h, rfl, h1⟩

theorem row_cells {w : World} {E : TypeId} {size n : Nat} {v : Value} {vs : List Value} {g : Nat} (h : w.ownsRow 0 E size v n vs) (hg : v.ownBlock = some g) (j : Nat) (hj : j < vs.length) : w.cell? ⟨g, j, none⟩ = some vs[j] := by
  have := h.cells (g := g) hg j vs[j] (by rw [List.getElem?_eq_getElem hj])
  rw [addr_add0, Nat.zero_add] at this
  exact this

theorem cLoad_sound {P : Program} {F : Fr} {hp : Nat → Option Ob} {G : Gh} {ρ : Operand → Value} {o : Oper} {w : World} (t : TypeId) (x : Operand) (ho : o.op = .load t x) {i : TI} (hi : i.ok P t) (h1 : i.agg = false → i.size = 1)
    {l : Lf} {sd : Prop} {y : AV} (e : cLoad i hp l = some (sd, y)) (hsd : sd) (h : RepH F hp G w) (hx : l.rel w G (Okay F hp G) (ρ x)) :
    Runs P ρ o w (Aft F hp G w hp y []) := by
  unfold cLoad at e
  split at e
  · rename_i b off
    obtain ⟨g, hg, hv⟩ := hx
    split at e
    · rename_i T cs hb
      cases hle : Nat.ble (off + i.size) cs.length
      · rw [hle] at e; cases e
      · rw [hle] at e
        cases e
        obtain ⟨g', vs, hg', hblk, hrl, hf⟩ := h.sat b _ hb
        have : g = g' := by
          unfold boxAt at hg hg'; rw [hg] at hg'; cases hg'; rfl
        subst this
        have hlen := relL_len hrl
        obtain ⟨c1, c2⟩ := cells_block hblk off i.size (by rw [hlen]; exact Nat.le_of_ble_eq_true hle)
        refine Runs.of_ok (run_load t x ho hi hv c1 h1 c2) (Aft.still h (relE_mk (relL_take _ (relL_drop _ hrl)) fun ha => by rw [c1]; exact h1 ha))
    · cases e
  · rename_i t' x'
    obtain ⟨g, off, cs, hv, h2, h3, h4, h5⟩ := hx
    cases hq : (Nat.beq t'.size i.size && (t'.isSt == i.agg))
    · rw [hq] at e; cases e
    · rw [hq] at e
      cases e
      have hs := Nat.eq_of_beq_eq_true (Bool.and_eq_true_iff.1 hq).1
      have hl := Ty.rd_len t' x' cs h4
      exact Runs.of_ok (run_load t x ho hi hv (by rw [hl, hs]) h1 h5) (Aft.still h (relE_mk (leaves_rel t' x' cs h4) fun ha => by rw [hl, hs]; exact h1 ha))
  · rename_i b n s k
    obtain ⟨g, hg, hv⟩ := hx
    split at e
    · rename_i E t' l' hb
      obtain ⟨vs, hr1, hr2, hr3⟩ := h.sat b _ hb
      have hvl := rdL_len hr1
      cases hs : Nat.beq s t'.size
      · rw [hs] at e; cases e
      · rw [hs] at e
        have hs' := Nat.eq_of_beq_eq_true hs
        subst hs'
        simp only [cond_true] at e
        have base : ∀ (hn : n < l'.length), t'.rd w (Okay F hp G) (l'.getD n t'.dflt) ((vs.drop (n * t'.size)).take t'.size) ∧ (n + 1) * t'.size ≤ vs.length := by
          intro hn
          have := rdL_at hr1 n hn
          rw [List.getD_eq_getElem?_getD, List.getElem?_eq_getElem hn]
          refine ⟨this, ?_⟩
          rw [hvl]
          exact Nat.mul_le_mul_right _ hn
        cases hq : (Nat.beq k 0 && (Nat.beq t'.size i.size && (t'.isSt == i.agg)))
        · rw [hq] at e
          simp only [cond_false] at e
          split at e
          · rename_i t2 l2
            split at e
            · rename_i u y' hc
              cases hq2 : (Nat.beq u.size i.size && (u.isSt == i.agg))
              · rw [hq2] at e; cases e
              · rw [hq2] at e
                cases e
                obtain ⟨b1, b2⟩ := base hsd
                obtain ⟨c1, c2, c3, k1, k2, k3⟩ := comp_rd t2 _ _ k u y' b1 hc
                have hs2 := Nat.eq_of_beq_eq_true (Bool.and_eq_true_iff.1 hq2).1
                have hl2 := Ty.rd_len u y' c2 k3
                refine Runs.of_ok (run_load t x ho hi hv (vs := c2) (by rw [hl2, hs2]) h1 ?_) (Aft.still h (relE_mk (leaves_rel u y' c2 k3) fun ha => by rw [hl2, hs2]; exact h1 ha))
                intro j hj
                have hlen : ((vs.drop (n * (Ty.st t2).size)).take (Ty.st t2).size).length = (Ty.st t2).size := by
                  rw [List.length_take, List.length_drop]
                  have : (n + 1) * (Ty.st t2).size = n * (Ty.st t2).size + (Ty.st t2).size := by rw [Nat.add_mul, Nat.one_mul]
                  omega
                have hkj : k + j < (Ty.st t2).size := by
                  rw [← hlen, k1]
                  simp only [List.length_append, k2]
                  omega
                have hidx : n * (Ty.st t2).size + k + j < vs.length := by
                  have : (n + 1) * (Ty.st t2).size = n * (Ty.st t2).size + (Ty.st t2).size := by rw [Nat.add_mul, Nat.one_mul]
                  omega
                rw [row_cells hr2 hg _ hidx]
                congr 1
                have q : ((vs.drop (n * (Ty.st t2).size)).take (Ty.st t2).size)[k + j]? = (c1 ++ (c2 ++ c3))[k + j]? := by rw [k1]
                rw [List.getElem?_take_of_lt hkj, List.getElem?_drop, List.getElem?_append_right (by omega), k2, Nat.add_sub_cancel_left, List.getElem?_append_left hj, ← Nat.add_assoc] at q
                rw [List.getElem?_eq_getElem hidx, List.getElem?_eq_getElem hj] at q
                exact Option.some.inj q
            · cases e
          · cases e
        · rw [hq] at e
          cases e
          obtain ⟨q1, q2⟩ := Bool.and_eq_true_iff.1 hq
          obtain rfl := Nat.eq_of_beq_eq_true q1
          have hs2 := Nat.eq_of_beq_eq_true (Bool.and_eq_true_iff.1 q2).1
          obtain ⟨b1, b2⟩ := base hsd
          have hl2 := Ty.rd_len t' _ _ b1
          refine Runs.of_ok (run_load t x ho hi hv (by rw [hl2, hs2]) h1 ?_) (Aft.still h (relE_mk (leaves_rel t' _ _ b1) fun ha => by rw [hl2, hs2]; exact h1 ha))
          intro j hj
          rw [hl2] at hj
          have : (n + 1) * t'.size = n * t'.size + t'.size := by rw [Nat.add_mul, Nat.one_mul]
          rw [row_cells hr2 hg (n * t'.size + 0 + j) (by omega)]
          congr 1
          rw [List.getElem_take, List.getElem_drop]
          simp only [Nat.add_zero]
    · rename_i E m cs hb
      obtain ⟨g', vs, hg', _, hblk, hrl, hf⟩ := h.sat b _ hb
      have hg2 : (G.r b).ownBlock = some g' := by rw [hg']; rfl
      obtain rfl : g = g' := by rw [hg] at hg2; cases hg2; rfl
      cases hle : Nat.ble (n * s + k + i.size) cs.length
      · rw [hle] at e; cases e
      · rw [hle] at e
        cases e
        have hlen := relL_len hrl
        obtain ⟨c1, c2⟩ := cells_block hblk (n * s + k) i.size (by rw [hlen]; exact Nat.le_of_ble_eq_true hle)
        refine Runs.of_ok (run_load t x ho hi hv c1 h1 c2) (Aft.still h (relE_mk (relL_take _ (relL_drop _ hrl)) fun ha => by rw [c1]; exact h1 ha))
    · rename_i E t' l1 cs l2 hb
      cases hq : (Nat.beq s t'.size && (Nat.beq k 0 && (Nat.beq t'.size i.size && (t'.isSt == i.agg))))
      · rw [hq] at e; cases e
      · rw [hq] at e
        cases e
        obtain ⟨q0, q1⟩ := Bool.and_eq_true_iff.1 hq
        obtain ⟨q1, q2⟩ := Bool.and_eq_true_iff.1 q1
        obtain rfl := Nat.eq_of_beq_eq_true q0
        obtain rfl := Nat.eq_of_beq_eq_true q1
        have hs2 := Nat.eq_of_beq_eq_true (Bool.and_eq_true_iff.1 q2).1
        obtain ⟨v1, c, v2, m1, m2, m3, m4, m5, m6⟩ := h.sat b _ hb
        obtain ⟨n1, n2⟩ := hsd
        have len1 := rdL_len m1
        have len2 := rdL_len m4
        have key : ∃ us, t'.rd w (Okay F hp G) (roxAt t' l1 l2 n) us ∧ ∀ j (hj : j < us.length), (v1 ++ (c ++ v2))[n * t'.size + j]? = some us[j] := by
          unfold roxAt
          by_cases hlt : n < l1.length
          · rw [if_pos hlt, List.getD_eq_getElem?_getD, List.getElem?_eq_getElem hlt]
            have r1 := rdL_at m1 n hlt
            refine ⟨_, r1, fun j hj => ?_⟩
            have hj' : j < t'.size := by simp only [List.length_take] at hj; omega
            have : (n + 1) * t'.size ≤ l1.length * t'.size := Nat.mul_le_mul_right _ hlt
            rw [Nat.add_mul, Nat.one_mul] at this
            rw [List.getElem?_append_left (by omega), List.getElem_take, List.getElem_drop, List.getElem?_eq_getElem (by omega)]
          · rw [if_neg hlt]
            have hlt2 : n - (l1.length + 1) < l2.length := by omega
            rw [List.getD_eq_getElem?_getD, List.getElem?_eq_getElem hlt2]
            have r1 := rdL_at m4 _ hlt2
            refine ⟨_, r1, fun j hj => ?_⟩
            have hj' : j < t'.size := by simp only [List.length_take] at hj; omega
            have e1 : n * t'.size = l1.length * t'.size + t'.size + (n - (l1.length + 1)) * t'.size := by
              have : n = l1.length + 1 + (n - (l1.length + 1)) := by omega
              calc n * t'.size = (l1.length + 1 + (n - (l1.length + 1))) * t'.size := by rw [← this]
                _ = _ := by rw [Nat.add_mul, Nat.add_mul, Nat.one_mul]
            have : (n - (l1.length + 1) + 1) * t'.size ≤ l2.length * t'.size := Nat.mul_le_mul_right _ hlt2
            rw [Nat.add_mul, Nat.one_mul] at this
            rw [List.getElem?_append_right (by omega), List.getElem?_append_right (by omega), List.getElem_take, List.getElem_drop, show n * t'.size + j - v1.length - c.length = (n - (l1.length + 1)) * t'.size + j by omega, List.getElem?_eq_getElem (by omega)]
        obtain ⟨us, u1, u2⟩ := key
        have hl2 := Ty.rd_len t' _ _ u1
        refine Runs.of_ok (run_load t x ho hi hv (by rw [hl2, hs2]) h1 ?_) (Aft.still h (relE_mk (leaves_rel t' _ _ u1) fun ha => by rw [hl2, hs2]; exact h1 ha))
        intro j hj
        obtain ⟨z1, z2⟩ := List.getElem?_eq_some_iff.1 (u2 j hj)
        rw [Nat.add_zero, row_cells m5 hg _ z1, z2]
    · cases e
  · rename_i b n s k
    obtain ⟨g, hg, hv⟩ := hx
    split at e
    · rename_i E t' l1 cs l2 hb
      cases hq : (Nat.beq s t'.size && Nat.ble (k + i.size) cs.length)
      · rw [hq] at e; cases e
      · rw [hq] at e
        cases e
        obtain ⟨q0, q1⟩ := Bool.and_eq_true_iff.1 hq
        obtain rfl := Nat.eq_of_beq_eq_true q0
        have q1 := Nat.le_of_ble_eq_true q1
        obtain ⟨v1, c, v2, m1, m2, m3, m4, m5, m6⟩ := h.sat b _ hb
        obtain rfl : n = l1.length := hsd
        have len1 := rdL_len m1
        have lenc := relL_len m2
        have hl : ((c.drop k).take i.size).length = i.size := by rw [List.length_take, List.length_drop]; omega
        refine Runs.of_ok (run_load t x ho hi hv (vs := (c.drop k).take i.size) hl h1 ?_) (Aft.still h (relE_mk (relL_take _ (relL_drop _ m2)) fun ha => by rw [hl]; exact h1 ha))
        intro j hj
        rw [hl] at hj
        have hidx : l1.length * t'.size + k + j < (v1 ++ (c ++ v2)).length := by simp only [List.length_append]; omega
        rw [row_cells m5 hg _ hidx]
        congr 1
        rw [List.getElem_append_right (by omega), List.getElem_append_left (by omega), List.getElem_take, List.getElem_drop]
        congr 1
        omega
    · cases e
  · cases e

/-! part SxE -/
theorem oneCell_cells {v : Value} (h : v.oneCell' = true) : v.cells = #[v] := by
  cases v <;> first | rfl | (simp [Value.oneCell'] at h)

theorem cells_mkV {agg : Bool} {vs : List Value} (h1 : agg = false → vs.length = 1) (h : ∀ u ∈ vs, u.oneCell' = true) : (mkV agg vs).cells.toList = vs := by
  cases agg with
  | true => simp [mkV, Value.cells]
  | false =>
    have := h1 rfl
    match vs, this with
    | [v], _ => simp [mkV, oneCell_cells (h v (by simp))]

theorem only_setRow {w : World} {g : Nat} {cs : Array Value} : Only (fun k => k = g) w (w.setRow g cs) :=
  ⟨rfl, rfl, rfl, by simp [World.setRow], fun k _ hn => by
    have : g ≠ k := fun e => hn e.symm
    simp [World.setRow, Array.getElem?_modify, this]⟩

theorem run_store1 {P : Program} {ρ : Operand → Value} {o : Oper} {w : World} (t : TypeId) (x y : Operand) (ho : o.op = .store t x y) {i : TI} (hi : i.ok P t) {g q : Nat} (hx : ρ x = .pointer (some ⟨g, q, none⟩))
    {vs : List Value} (hy : (ρ y).cells.toList = vs) (hl : vs.length = i.size) (h1 : ∀ u ∈ vs, u.oneCell' = true) {cur : Array Value} {T : TypeId} (hg : w.heap[g]? = some (.cells cur T (0, 0))) (hle : q + vs.length ≤ cur.size) :
    (execOp ρ o).run P w = .ok .skip (w.setRow g (cur.toList.take q ++ vs ++ cur.toList.drop (q + vs.length)).toArray) := by
  have hsz : (ρ y).cells.size = i.size := by rw [← Array.length_toList, hy, hl]
  have hst := run_storeCells_at (P := P) g q T vs 0 cur w hg (by omega) h1
  rw [Nat.add_zero] at hst
  simp only [execOp, ho, Instr.storeAt, Sem.run_bind, hx, Instr.sureAddr, Sem.run_pure, Result.andThen_ok, storeVar, run_size hi, hsz, ne_eq, not_true_eq_false, if_false, hy, hst]

def castD {u v : Ty} (h : u = v) (x : u.den) : v.den := h ▸ x
/-- a cell as data of a type -/
def lfTo (t : Ty) : Lf → Option t.den
  | .d u y => if h : u = t then some (castD h y) else none
  | .nl => match t with
    | .slice _ => some []
    | _ => none
  | _ => none
theorem lfTo_rd {w : World} {G : Gh} {A : Nat → Prop} {t : Ty} {l : Lf} {x : t.den} {v : Value} (e : lfTo t l = some x) (h : l.rel w G A v) : t.rd w A x [v] := by
  unfold lfTo at e
  split at e
  · split at e
    · rename_i hu
      subst hu
      cases e
      exact h
    · cases e
  · split at e
    · cases e
      obtain rfl := (show v = _ from h)
      exact ⟨none, 0, rfl, Nat.le_refl _, Nat.zero_le _, fun _ => rfl, fun i hi => by simp at hi⟩
    · cases e
  · cases e

/-- cells as data -/
def Ty.pack : (t : Ty) → List Lf → Option (t.den × List Lf)
  | .pair a b, ls => match a.pack ls with
    | some (x, r) => match b.pack r with
      | some (y, r') => some ((x, y), r')
      | none => none
    | none => none
  | .st a, ls => a.pack ls
  | .int k, l :: r => (lfTo (.int k) l).map (·, r)
  | .bool, l :: r => (lfTo .bool l).map (·, r)
  | .str, l :: r => (lfTo .str l).map (·, r)
  | .slice e, l :: r => (lfTo (.slice e) l).map (·, r)
  | _, [] => none
theorem pack_leaf {w : World} {G : Gh} {A : Nat → Prop} {t : Ty} {l : Lf} {r r' : List Lf} {x : t.den} {vs : List Value} (e : (lfTo t l).map (·, r) = some (x, r')) (h : relL w G A (l :: r) vs) :
    ∃ c q, vs = c ++ q ∧ t.rd w A x c ∧ relL w G A r' q := by
  obtain ⟨v, q, rfl, h1, h2⟩ := h
  rw [Option.map_eq_some_iff] at e
  obtain ⟨y, e1, e2⟩ := e
  cases e2
  exact ⟨[v], q, rfl, lfTo_rd e1 h1, h2⟩
theorem pack_rd {w : World} {G : Gh} {A : Nat → Prop} : ∀ (t : Ty) (ls : List Lf) (x : t.den) (r : List Lf) (vs : List Value), t.pack ls = some (x, r) → relL w G A ls vs → ∃ c q, vs = c ++ q ∧ t.rd w A x c ∧ relL w G A r q
  | .pair a b, ls, x, r, vs, e, h => by
    unfold Ty.pack at e
    split at e
    · rename_i x1 r1 e1
      split at e
      · rename_i y1 r2 e2
        cases e
        obtain ⟨c1, q1, rfl, k1, k2⟩ := pack_rd a ls x1 r1 vs e1 h
        obtain ⟨c2, q2, rfl, m1, m2⟩ := pack_rd b r1 y1 r q1 e2 k2
        exact ⟨c1 ++ c2, q2, by simp, ⟨c1, c2, rfl, k1, m1⟩, m2⟩
      · cases e
    · cases e
  | .st a, ls, x, r, vs, e, h => pack_rd a ls x r vs e h
  | .int k, l :: r', x, r, vs, e, h => pack_leaf e h
  | .bool, l :: r', x, r, vs, e, h => pack_leaf e h
  | .str, l :: r', x, r, vs, e, h => pack_leaf e h
  | .slice k, l :: r', x, r, vs, e, h => pack_leaf e h

/-- a part of data that is written -/
def Ty.putc : (t : Ty) → t.den → Nat → List Lf → Option t.den
  | .pair a b, x, off, ls =>
    bif Nat.beq off 0 && Nat.beq ls.length (a.size + b.size) then (match (Ty.pair a b).pack ls with | some (y, []) => some y | _ => none)
    else bif Nat.ble (off + ls.length) a.size then (a.putc x.1 off ls).map (·, x.2)
    else bif Nat.ble a.size off then (b.putc x.2 (off - a.size) ls).map (x.1, ·) else none
  | .st a, x, off, ls => a.putc x off ls
  | .int k, _, off, ls => bif Nat.beq off 0 then (match ls with | [l] => lfTo (.int k) l | _ => none) else none
  | .bool, _, off, ls => bif Nat.beq off 0 then (match ls with | [l] => lfTo .bool l | _ => none) else none
  | .str, _, off, ls => bif Nat.beq off 0 then (match ls with | [l] => lfTo .str l | _ => none) else none
  | .slice e, _, off, ls => bif Nat.beq off 0 then (match ls with | [l] => lfTo (.slice e) l | _ => none) else none

theorem putc_leaf {w : World} {G : Gh} {A : Nat → Prop} {t : Ty} {x' : t.den} {off : Nat} {ls : List Lf} {cs vs : List Value} (hs : cs.length = 1) (h : relL w G A ls vs)
    (e : (bif Nat.beq off 0 then (match ls with | [l] => lfTo t l | _ => none) else none) = some x') : t.rd w A x' (cs.take off ++ vs ++ cs.drop (off + vs.length)) ∧ off + vs.length ≤ cs.length := by
  cases h0 : Nat.beq off 0
  · rw [h0] at e; cases e
  · rw [h0] at e
    have := Nat.eq_of_beq_eq_true h0
    subst this
    simp only [cond_true] at e
    split at e
    · rename_i l
      obtain ⟨v, r, rfl, h1, h2⟩ := h
      obtain rfl := (show r = _ from h2)
      have := lfTo_rd e h1
      match cs, hs with
      | [c], _ => exact ⟨by simpa using this, by simp⟩
    · cases e
theorem putc_rd {w : World} {G : Gh} {A : Nat → Prop} : ∀ (t : Ty) (x : t.den) (off : Nat) (ls : List Lf) (x' : t.den) (cs vs : List Value), t.rd w A x cs → relL w G A ls vs → t.putc x off ls = some x' →
    t.rd w A x' (cs.take off ++ vs ++ cs.drop (off + vs.length)) ∧ off + vs.length ≤ cs.length
  | .pair a b, x, off, ls, x', cs, vs, h, hl, e => by
    obtain ⟨q1, q2, rfl, h1, h2⟩ := h
    have l1 := Ty.rd_len a _ _ h1
    have l2 := Ty.rd_len b _ _ h2
    have lv := relL_len hl
    unfold Ty.putc at e
    cases c1 : (Nat.beq off 0 && Nat.beq ls.length (a.size + b.size))
    · rw [c1] at e
      simp only [cond_false] at e
      cases c2 : Nat.ble (off + ls.length) a.size
      · rw [c2] at e
        simp only [cond_false] at e
        cases c3 : Nat.ble a.size off
        · rw [c3] at e; cases e
        · rw [c3] at e
          simp only [cond_true, Option.map_eq_some_iff] at e
          obtain ⟨y, e1, rfl⟩ := e
          obtain ⟨k1, k2⟩ := putc_rd b x.2 (off - a.size) ls y q2 vs h2 hl e1
          have hle := Nat.le_of_ble_eq_true c3
          refine ⟨⟨q1, _, ?_, h1, k1⟩, by rw [List.length_append]; omega⟩
          rw [List.take_append, List.take_of_length_le (by omega), List.drop_append, List.drop_of_length_le (by omega), l1]
          simp only [List.nil_append, List.append_assoc]
          congr 3
          congr 1
          omega
      · rw [c2] at e
        simp only [cond_true, Option.map_eq_some_iff] at e
        obtain ⟨y, e1, rfl⟩ := e
        obtain ⟨k1, k2⟩ := putc_rd a x.1 off ls y q1 vs h1 hl e1
        refine ⟨⟨_, q2, ?_, k1, h2⟩, by rw [List.length_append]; omega⟩
        rw [List.take_append_of_le_length (by omega), List.drop_append_of_le_length (by omega)]
        simp
    · rw [c1] at e
      simp only [cond_true] at e
      obtain ⟨d1, d2⟩ := Bool.and_eq_true_iff.1 c1
      obtain rfl := Nat.eq_of_beq_eq_true d1
      have d2 := Nat.eq_of_beq_eq_true d2
      split at e
      · rename_i y hp
        cases e
        obtain ⟨c, q, rfl, k1, k2⟩ := pack_rd (.pair a b) ls x' [] vs hp hl
        obtain rfl := (show q = _ from k2)
        have l3 := Ty.rd_len (.pair a b) x' c k1
        simp only [Ty.size] at l3
        refine ⟨?_, by simp only [List.length_append, List.length_nil]; omega⟩
        rw [List.take_zero, List.drop_of_length_le (by rw [List.length_append, List.append_nil]; omega)]
        simpa using k1
      · cases e
  | .st a, x, off, ls, x', cs, vs, h, hl, e => putc_rd a x off ls x' cs vs h hl e
  | .int k, x, off, ls, x', cs, vs, h, hl, e => putc_leaf (Ty.rd_len (.int k) x cs h) hl e
  | .bool, x, off, ls, x', cs, vs, h, hl, e => putc_leaf (Ty.rd_len .bool x cs h) hl e
  | .str, x, off, ls, x', cs, vs, h, hl, e => putc_leaf (Ty.rd_len .str x cs h) hl e
  | .slice k, x, off, ls, x', cs, vs, h, hl, e => putc_leaf (Ty.rd_len (.slice k) x cs h) hl e

/-- a store, in the state's words -/
def cStore (i : TI) (hp : Nat → Option Ob) (y : AV) : Lf → Option (Prop × Nat × Ob)
  | .p b o => match hp b, y with
    | some (.box T cs), .v _ ls => bif Nat.beq ls.length i.size && Nat.ble (o + i.size) cs.length then some (True, b, .box T (cs.take o ++ ls ++ cs.drop (o + i.size))) else none
    | _, _ => none
  | .pe b n s k => match hp b, y with
    | some (.row E t l), .v _ ls => bif Nat.beq ls.length i.size && Nat.beq s t.size then
        (match t.putc (l.getD n t.dflt) k ls with
          | some x => some (n < l.length, b, .row E t (l.set n x))
          | none => bif Nat.ble (k + i.size) t.size then some (n < l.length, b, .rox E t (l.take n) ((t.leaves (l.getD n t.dflt)).take k ++ ls ++ (t.leaves (l.getD n t.dflt)).drop (k + i.size)) (l.drop (n + 1))) else none) else none
    | some (.arr E m cs), .v _ ls => bif Nat.beq ls.length i.size && Nat.ble (n * s + k + i.size) cs.length then some (True, b, .arr E m (cs.take (n * s + k) ++ ls ++ cs.drop (n * s + k + i.size))) else none
    | _, _ => none
  | .px b n s k => match hp b, y with
    | some (.rox E t l1 cs l2), .v _ ls => bif Nat.beq ls.length i.size && (Nat.beq s t.size && Nat.ble (k + i.size) cs.length) then some (n = l1.length, b, .rox E t l1 (cs.take k ++ ls ++ cs.drop (k + i.size)) l2) else none
    | _, _ => none
  | _ => none

theorem rdL_set {w : World} {A : Nat → Prop} {t : Ty} : ∀ {l : List t.den} {vs : List Value} (n : Nat) (x' : t.den) (us : List Value) (k : Nat), rdL w A t l vs → n < l.length →
    (∀ c, t.rd w A (l.getD n t.dflt) c → t.rd w A x' (c.take k ++ us ++ c.drop (k + us.length)) ∧ k + us.length ≤ c.length) →
    rdL w A t (l.set n x') (vs.take (n * t.size + k) ++ us ++ vs.drop (n * t.size + k + us.length)) ∧ n * t.size + k + us.length ≤ vs.length
  | x :: xs, vs, 0, x', us, k, h, _, hc => by
    obtain ⟨c, r, rfl, h1, h2⟩ := h
    obtain ⟨k1, k2⟩ := hc c h1
    simp only [Nat.zero_mul, Nat.zero_add, List.set_cons_zero]
    refine ⟨⟨_, r, ?_, k1, h2⟩, by rw [List.length_append]; omega⟩
    rw [List.take_append_of_le_length (by omega), List.drop_append_of_le_length (by omega)]
    simp
  | x :: xs, vs, n + 1, x', us, k, h, hn, hc => by
    obtain ⟨c, r, rfl, h1, h2⟩ := h
    have hl := Ty.rd_len t x c h1
    obtain ⟨k1, k2⟩ := rdL_set n x' us k h2 (by simpa using hn) hc
    have e : (n + 1) * t.size = c.length + n * t.size := by rw [Nat.add_mul, hl]; omega
    simp only [List.set_cons_succ]
    refine ⟨⟨c, _, ?_, h1, k1⟩, by rw [List.length_append, e]; omega⟩
    rw [e, List.take_append, List.take_of_length_le (by omega), List.drop_append, List.drop_of_length_le (by omega)]
    simp only [List.nil_append, List.append_assoc]
    congr 2
    · congr 1
      omega
    · congr 2
      omega

theorem splice_len {cs us : List Value} {o : Nat} (h : o + us.length ≤ cs.length) : (cs.take o ++ us ++ cs.drop (o + us.length)).length = cs.length := by
  rw [List.length_append, List.length_append, List.length_take, List.length_drop]; omega
theorem take_splice {cs us : List Value} {q N : Nat} (h : q + us.length ≤ N) (hc : q + us.length ≤ cs.length) : (cs.take q ++ us ++ cs.drop (q + us.length)).take N = (cs.take N).take q ++ us ++ (cs.take N).drop (q + us.length) := by
  have h0 : (cs.take q ++ us).length = q + us.length := by rw [List.length_append, List.length_take]; omega
  rw [List.take_append, List.take_of_length_le (by omega), h0, List.take_take, Nat.min_eq_left (by omega), List.drop_take]
theorem relL_splice {w : World} {G : Gh} {A : Nat → Prop} {xs ys : List Lf} {vs us : List Value} (h : relL w G A xs vs) (k : relL w G A ys us) (o : Nat) : relL w G A (xs.take o ++ ys ++ xs.drop (o + ys.length)) (vs.take o ++ us ++ vs.drop (o + us.length)) := by
  rw [relL_len k]
  exact relL_append (relL_append (relL_take o h) k) (relL_drop _ h)

/-- a row's cells, one element's written over -/
theorem owns_splice {w w' : World} {E : TypeId} {size n : Nat} {v : Value} {vs us : List Value} {q g : Nat} (h : w.ownsRow 0 E size v n vs) (hg : v.ownBlock = some g) (hq : q + us.length ≤ vs.length)
    (hw : ∀ cur, w.heap[g]? = some (.cells cur E (0, 0)) → w'.heap[g]? = some (.cells (cur.toList.take q ++ us ++ cur.toList.drop (q + us.length)).toArray E (0, 0))) :
    w'.ownsRow 0 E size v n (vs.take q ++ us ++ vs.drop (q + us.length)) := by
  obtain ⟨r1, r2⟩ := h
  refine ⟨by rw [splice_len hq]; exact r1, ?_⟩
  rcases r2 with ⟨r2, r3⟩ | ⟨g', cap, cur, r3, r4, r5, r6, r7, r8, r9⟩
  · rw [r2] at hg; cases hg
  · have hg2 : v.ownBlock = some g' := by rw [r3]; rfl
    obtain rfl : g = g' := by rw [hg] at hg2; cases hg2; rfl
    have hcl : n * size ≤ cap * size := Nat.mul_le_mul_right _ r6
    have hcur : vs.length ≤ cur.size := by omega
    have hcur2 : cur.toList.length = cur.size := Array.length_toList
    refine .inr ⟨g, cap, _, r3, Nat.zero_le _, hw cur r5, r6, r7, ?_, ?_⟩
    · rw [List.size_toArray, splice_len (by omega), Array.length_toList, r8]
    · rw [List.toList_toArray, take_splice (by rw [← r1]; exact hq) (by omega), r9]
theorem owns_block {w : World} {E : TypeId} {size n : Nat} {v : Value} {vs : List Value} {g : Nat} (h : w.ownsRow 0 E size v n vs) (hg : v.ownBlock = some g) : ∃ cur, w.heap[g]? = some (.cells cur E (0, 0)) ∧ vs.length ≤ cur.size := by
  obtain ⟨r1, r2⟩ := h
  rcases r2 with ⟨r2, r3⟩ | ⟨g', cap, cur, r3, r4, r5, r6, r7, r8, r9⟩
  · rw [r2] at hg; cases hg
  · have hg2 : v.ownBlock = some g' := by rw [r3]; rfl
    obtain rfl : g = g' := by rw [hg] at hg2; cases hg2; rfl
    exact ⟨cur, r5, by rw [r8, r1]; exact Nat.mul_le_mul_right _ r6⟩
theorem rdL_split {w : World} {A : Nat → Prop} {t : Ty} : ∀ {l : List t.den} {vs : List Value} (n : Nat), rdL w A t l vs → n < l.length → ∃ v1 c v2, vs = v1 ++ (c ++ v2) ∧ rdL w A t (l.take n) v1 ∧ t.rd w A (l.getD n t.dflt) c ∧ rdL w A t (l.drop (n + 1)) v2
  | x :: xs, vs, 0, h, _ => by
    obtain ⟨c, r, rfl, h1, h2⟩ := h
    exact ⟨[], c, r, rfl, rfl, h1, h2⟩
  | x :: xs, vs, n + 1, h, hn => by
    obtain ⟨c, r, rfl, h1, h2⟩ := h
    obtain ⟨v1, c', v2, rfl, k1, k2, k3⟩ := rdL_split n h2 (by simpa using hn)
    exact ⟨c ++ v1, c', v2, by simp, ⟨c, v1, rfl, h1, k1⟩, k2, k3⟩
theorem splice_mid {v1 c v2 us : List Value} {k : Nat} (hk : k + us.length ≤ c.length) :
    (v1 ++ (c ++ v2)).take (v1.length + k) ++ us ++ (v1 ++ (c ++ v2)).drop (v1.length + k + us.length) = v1 ++ ((c.take k ++ us ++ c.drop (k + us.length)) ++ v2) := by
  rw [List.take_append, List.take_of_length_le (by omega), Nat.add_sub_cancel_left, List.take_append_of_le_length (by omega), List.drop_append, List.drop_of_length_le (by omega), show v1.length + k + us.length - v1.length = k + us.length by omega, List.drop_append_of_le_length hk]
  simp

theorem cStore_sound {P : Program} {F : Fr} {hp : Nat → Option Ob} {G : Gh} {ρ : Operand → Value} {o : Oper} {w : World} (t : TypeId) (x z : Operand) (ho : o.op = .store t x z) {i : TI} (hi : i.ok P t) (h1 : i.agg = false → i.size = 1)
    {l : Lf} {y : AV} {sd : Prop} {b : Nat} {ob : Ob} (e : cStore i hp y l = some (sd, b, ob)) (hsd : sd) (h : RepH F hp G w) (hx : l.rel w G (Okay F hp G) (ρ x)) (hy : y.rel w G (Okay F hp G) (ρ z)) :
    Runs P ρ o w (Aft F hp G w (upd hp b (some ob)) .un []) := by
  have fin : ∀ (c : Nat) (o1 o2 : Ob) (w' : World), hp c = some o1 → Only (G.f c) w w' → (Ext (Foot hp G) (Okay F hp G) G w (Okay F hp G) G w' [] → Sat w' G (Okay F hp G) c o2) → (execOp ρ o).run P w = .ok .skip w' → Runs P ρ o w (Aft F hp G w (upd hp c (some o2)) .un []) := by
    intro c o1 o2 w' k1 k2 k3 k4
    obtain ⟨m1, m2⟩ := write_step h c o1 o2 k1 k2 k3
    exact Runs.of_skip k4 ⟨G, m1, m2, trivial⟩
  unfold cStore at e
  split at e
  · rename_i b' off
    obtain ⟨g, hg, hv⟩ := hx
    split at e
    · rename_i T cs agg ls hb
      cases hq : (Nat.beq ls.length i.size && Nat.ble (off + i.size) cs.length)
      · rw [hq] at e; cases e
      · rw [hq] at e
        cases e
        obtain ⟨q1, q2⟩ := Bool.and_eq_true_iff.1 hq
        have q1 := Nat.eq_of_beq_eq_true q1
        have q2 := Nat.le_of_ble_eq_true q2
        obtain ⟨us, u1, u2, u3⟩ := hy
        have ul := relL_len u1
        obtain ⟨g', vs, hg', hblk, hrl, hf⟩ := h.sat _ _ hb
        obtain rfl : g = g' := by unfold boxAt at hg hg'; rw [hg] at hg'; cases hg'; rfl
        have vl := relL_len hrl
        have vl' : vs.size = cs.length := by rw [← Array.length_toList]; exact vl
        have hr := run_store1 t x z ho hi hv (vs := us) (by rw [u2]; exact cells_mkV u3 (relL_one u1)) (by rw [ul, q1]) (relL_one u1) hblk (by rw [ul, q1, vl']; exact q2)
        refine fin _ _ _ _ hb ?_ ?_ hr
        · exact ⟨only_setRow.os, only_setRow.tape, only_setRow.output, only_setRow.size, fun k hk hn => only_setRow.block k hk (fun ek => hn ((hf k).2 ek))⟩
        · intro hx'
          refine ⟨g, _, hg', setRow_heap w g vs _ T _ hblk, ?_, hf⟩
          have := relL_splice (hx'.ls (by simp) hrl) (hx'.ls (by simp) u1) off
          rw [← q1]
          simpa using this
    · cases e
  · rename_i b' n s k
    obtain ⟨g, hg, hv⟩ := hx
    split at e
    · rename_i E t' l' agg ls hb
      cases hq : (Nat.beq ls.length i.size && Nat.beq s t'.size)
      · rw [hq] at e; cases e
      · rw [hq] at e
        simp only [cond_true] at e
        obtain ⟨q1, q2⟩ := Bool.and_eq_true_iff.1 hq
        have q1 := Nat.eq_of_beq_eq_true q1
        have q2 := Nat.eq_of_beq_eq_true q2
        subst q2
        split at e
        · rename_i x' hp'
          cases e
          obtain ⟨us, u1, u2, u3⟩ := hy
          have ul := relL_len u1
          obtain ⟨vs, hr1, hr2, hf⟩ := h.sat _ _ hb
          obtain ⟨m1, m2⟩ := rdL_set n x' us k hr1 hsd (fun c hc => putc_rd t' _ k ls x' c us hc u1 hp')
          obtain ⟨r1, r2⟩ := hr2
          rcases r2 with ⟨r2, r3⟩ | ⟨g', cap, cur, r3, r4, r5, r6, r7, r8, r9⟩
          · rw [r2] at hg; cases hg
          · have hg2 : (G.r b).ownBlock = some g' := by rw [r3]; rfl
            obtain rfl : g = g' := by rw [hg] at hg2; cases hg2; rfl
            have hcl : l'.length * t'.size ≤ cap * t'.size := Nat.mul_le_mul_right _ r6
            have hr := run_store1 t x z ho hi hv (vs := us) (by rw [u2]; exact cells_mkV u3 (relL_one u1)) (by rw [ul, q1]) (relL_one u1) r5 (by rw [r8]; omega)
            refine fin _ _ _ _ hb ?_ ?_ hr
            · exact ⟨only_setRow.os, only_setRow.tape, only_setRow.output, only_setRow.size, fun k' hk hn => only_setRow.block k' hk (fun ek => hn ((hf k').2 (by rw [hg, ek])))⟩
            · intro hx'
              refine ⟨_, rdL_mono hx'.only.size (fun c hc hl => ⟨hx'.keepA c hl hc, hx'.only.block c hl (hx'.apart c hc)⟩) m1, ⟨?_, .inr ⟨g, cap, _, by rw [r3, List.length_set], Nat.zero_le _, setRow_heap w g cur _ E _ r5, by rw [List.length_set]; exact r6, r7, ?_, ?_⟩⟩, hf⟩
              · rw [splice_len m2, List.length_set]; exact r1
              · rw [List.size_toArray, splice_len (by simp only [Array.length_toList, r8, List.size_toArray]; omega), Array.length_toList, r8]
              · rw [List.length_set, List.toList_toArray, take_splice (by rw [← r1]; exact m2) (by simp only [Array.length_toList, r8, List.size_toArray]; omega), r9]
        · cases hle : Nat.ble (k + i.size) t'.size
          · rw [hle] at e; cases e
          · rw [hle] at e
            cases e
            have hle := Nat.le_of_ble_eq_true hle
            obtain ⟨us, u1, u2, u3⟩ := hy
            have ul : us.length = ls.length := relL_len u1
            obtain ⟨vs, hr1, hr2, hf⟩ := h.sat _ _ hb
            obtain ⟨v1, c, v2, rfl, k1, k2, k3⟩ := rdL_split n hr1 hsd
            have lc := Ty.rd_len t' _ _ k2
            have lv1 := rdL_len k1
            rw [List.length_take, Nat.min_eq_left (Nat.le_of_lt hsd)] at lv1
            obtain ⟨cur, r5, r6⟩ := owns_block hr2 hg
            have hsz : n * t'.size + k + us.length ≤ (v1 ++ (c ++ v2)).length := by simp only [List.length_append]; omega
            have hr := run_store1 t x z ho hi hv (vs := us) (by rw [u2]; exact cells_mkV u3 (relL_one u1)) (by rw [ul, q1]) (relL_one u1) r5 (by omega)
            refine fin _ _ _ _ hb ?_ ?_ hr
            · exact ⟨only_setRow.os, only_setRow.tape, only_setRow.output, only_setRow.size, fun k' hk hn => only_setRow.block k' hk (fun ek => hn ((hf k').2 (by rw [hg, ek])))⟩
            · intro hx'
              have mono : ∀ {l : List t'.den} {vs : List Value}, rdL w (Okay F hp G) t' l vs → rdL _ (Okay F hp G) t' l vs := fun hh => rdL_mono hx'.only.size (fun c hc hl => ⟨hx'.keepA c hl hc, hx'.only.block c hl (hx'.apart c hc)⟩) hh
              have lvs := leaves_len t' (l'.getD n t'.dflt)
              refine ⟨v1, c.take k ++ us ++ c.drop (k + us.length), v2, mono k1, ?_, by rw [splice_len (by omega), lc], mono k3, ?_, hf⟩
              · have := relL_splice (hx'.ls (by intro b hb; simp) (leaves_rel t' _ c k2)) (hx'.ls (by simp) u1) k
                rw [q1] at this
                exact this
              · have key := owns_splice (w' := w.setRow g (cur.toList.take (n * t'.size + k) ++ us ++ cur.toList.drop (n * t'.size + k + us.length)).toArray) hr2 hg hsz (fun cur' hc' => by rw [r5] at hc'; cases hc'; exact setRow_heap w g cur _ E _ r5)
                rw [← lv1, splice_mid (by omega)] at key
                have el : (l'.take n).length + 1 + (l'.drop (n + 1)).length = l'.length := by rw [List.length_take, List.length_drop]; omega
                rw [el]
                rw [lv1] at key
                exact key
    · rename_i E m cs agg ls hb
      cases hq : (Nat.beq ls.length i.size && Nat.ble (n * s + k + i.size) cs.length)
      · rw [hq] at e; cases e
      · rw [hq] at e
        cases e
        obtain ⟨q1, q2⟩ := Bool.and_eq_true_iff.1 hq
        have q1 := Nat.eq_of_beq_eq_true q1
        have q2 := Nat.le_of_ble_eq_true q2
        obtain ⟨us, u1, u2, u3⟩ := hy
        have ul := relL_len u1
        obtain ⟨g', vs, hg', hm, hblk, hrl, hf⟩ := h.sat _ _ hb
        have hg2 : (G.r b).ownBlock = some g' := by rw [hg']; rfl
        obtain rfl : g = g' := by rw [hg] at hg2; cases hg2; rfl
        have vl := relL_len hrl
        have vl' : vs.size = cs.length := by rw [← Array.length_toList]; exact vl
        have hr := run_store1 t x z ho hi hv (vs := us) (by rw [u2]; exact cells_mkV u3 (relL_one u1)) (by rw [ul, q1]) (relL_one u1) hblk (by rw [ul, q1, vl']; exact q2)
        refine fin _ _ _ _ hb ?_ ?_ hr
        · exact ⟨only_setRow.os, only_setRow.tape, only_setRow.output, only_setRow.size, fun k' hk hn => only_setRow.block k' hk (fun ek => hn ((hf k').2 ek))⟩
        · intro hx'
          refine ⟨g, _, hg', hm, setRow_heap w g vs _ E _ hblk, ?_, hf⟩
          have := relL_splice (hx'.ls (by simp) hrl) (hx'.ls (by simp) u1) (n * s + k)
          rw [← q1]
          simpa using this
    · cases e
  · rename_i b' n s k
    obtain ⟨g, hg, hv⟩ := hx
    split at e
    · rename_i E t' l1 cs l2 agg ls hb
      cases hq : (Nat.beq ls.length i.size && (Nat.beq s t'.size && Nat.ble (k + i.size) cs.length))
      · rw [hq] at e; cases e
      · rw [hq] at e
        cases e
        obtain ⟨q1, q2⟩ := Bool.and_eq_true_iff.1 hq
        obtain ⟨q2, q3⟩ := Bool.and_eq_true_iff.1 q2
        have q1 := Nat.eq_of_beq_eq_true q1
        obtain rfl := Nat.eq_of_beq_eq_true q2
        have q3 := Nat.le_of_ble_eq_true q3
        obtain rfl : n = l1.length := hsd
        obtain ⟨us, u1, u2, u3⟩ := hy
        have ul : us.length = ls.length := relL_len u1
        obtain ⟨v1, c, v2, m1, m2, m3, m4, m5, hf⟩ := h.sat _ _ hb
        have lc := relL_len m2
        have lv1 := rdL_len m1
        obtain ⟨cur, r5, r6⟩ := owns_block m5 hg
        have hsz : l1.length * t'.size + k + us.length ≤ (v1 ++ (c ++ v2)).length := by simp only [List.length_append]; omega
        have hr := run_store1 t x z ho hi hv (vs := us) (by rw [u2]; exact cells_mkV u3 (relL_one u1)) (by rw [ul, q1]) (relL_one u1) r5 (by omega)
        refine fin _ _ _ _ hb ?_ ?_ hr
        · exact ⟨only_setRow.os, only_setRow.tape, only_setRow.output, only_setRow.size, fun k' hk hn => only_setRow.block k' hk (fun ek => hn ((hf k').2 (by rw [hg, ek])))⟩
        · intro hx'
          have mono : ∀ {l : List t'.den} {vs : List Value}, rdL w (Okay F hp G) t' l vs → rdL _ (Okay F hp G) t' l vs := fun hh => rdL_mono hx'.only.size (fun c hc hl => ⟨hx'.keepA c hl hc, hx'.only.block c hl (hx'.apart c hc)⟩) hh
          refine ⟨v1, c.take k ++ us ++ c.drop (k + us.length), v2, mono m1, ?_, by rw [splice_len (by omega), m3], mono m4, ?_, hf⟩
          · have := relL_splice (hx'.ls (by simp) m2) (hx'.ls (by simp) u1) k
            rw [q1] at this
            exact this
          · have key := owns_splice (w' := w.setRow g (cur.toList.take (l1.length * t'.size + k) ++ us ++ cur.toList.drop (l1.length * t'.size + k + us.length)).toArray) m5 hg hsz (fun cur' hc' => by rw [r5] at hc'; cases hc'; exact setRow_heap w g cur _ E _ r5)
            rw [← lv1, splice_mid (by omega)] at key
            rw [lv1] at key
            exact key
    · cases e
  · cases e

/-! part SxF -/
def Ty.zc : Ty → List Value
  | .int k => [.int k 0]
  | .bool => [.bool false]
  | .str => [.string .empty]
  | .slice _ => [.slice none 0 0]
  | .pair a b => a.zc ++ b.zc
  | .st a => a.zc

theorem zc_rd {w : World} {A : Nat → Prop} : ∀ t : Ty, t.rd w A t.dflt t.zc
  | .int k => ⟨rfl, by cases k <;> decide, by cases k <;> decide⟩
  | .bool => rfl
  | .str => ⟨rfl, by decide⟩
  | .slice e => ⟨none, 0, rfl, Nat.le_refl _, Nat.zero_le _, fun _ => rfl, fun i hi => by simp [Ty.dflt] at hi⟩
  | .pair a b => ⟨a.zc, b.zc, rfl, zc_rd a, zc_rd b⟩
  | .st a => zc_rd a

/-- the type of data that a type of the program is -/
structure TyOk (P : Program) (E : TypeId) (i : TI) (t : Ty) : Prop where
  ok : i.ok P E
  zc : i.zc = t.zc
  sz : i.size = t.size

theorem TI.ok.info {P : Program} {t : TypeId} {i : TI} (h : i.ok P t) : ∃ j, P.info? t = some j ∧ j.zero = some (mkV i.agg i.zc) ∧ j.size = i.size ∧ j.bytes = i.bytes := by
  have := h.inf
  cases hj : P.info? t with
  | none => rw [hj] at this; cases this
  | some j =>
    rw [hj] at this
    simp only [Option.map_some, Option.some.injEq, Prod.mk.injEq] at this
    exact ⟨j, rfl, this⟩
theorem TI.ok.zone {P : Program} {t : TypeId} {i : TI} (h : i.ok P t) : ∀ u ∈ i.zc, u.oneCell' = true := by
  have := h.z.2
  rw [List.all_eq_true] at this
  exact this
theorem TI.ok.zcells {P : Program} {t : TypeId} {i : TI} (h : i.ok P t) (h1 : i.agg = false → i.size = 1) : (mkV i.agg i.zc).cells = i.zc.toArray := by
  have := cells_mkV (agg := i.agg) (vs := i.zc) (fun ha => by rw [h.z.1]; exact h1 ha) h.zone
  exact Array.toList_inj.1 (by rw [List.toList_toArray]; exact this)
theorem TI.ok.slice {P : Program} {t : TypeId} {i : TI} {e : TypeId} (h : i.ok P t) (hk : i.kind = .slice e) : P.underlying t = some (.slice e) := by
  obtain ⟨d, hd, hkk⟩ := h.und
  rw [hk] at hkk
  rw [hd, hkk.1]

/-! ### alloc, box -/
theorem alloc_sound {P : Program} {F : Fr} {hp : Nat → Option Ob} {G : Gh} {ρ : Operand → Value} {o : Oper} {w : World} (T : TypeId) (ho : o.op = .alloc T) {i : TI} (hi : i.ok P T) (h1 : i.agg = false → i.size = 1) (d : Nat) (h : RepH F hp G w) :
    Runs P ρ o w (Aft F hp G w (upd (scrH hp d d) d (some (.box T (i.zc.map lfOf)))) (.v false [.p d 0]) [d]) := by
  have hr : (execOp ρ o).run P w = .ok (.value (.pointer (some ⟨w.heap.size, 0, none⟩))) (w.alloc (.cells i.zc.toArray T)) := by
    simp only [execOp, ho, Instr.alloc, Sem.run_bind, run_zero hi, Result.andThen_ok, Sem.run_pure, newVar, newRow, newObj, hi.zcells h1]
    rfl
  obtain ⟨G', e1, e2, e3⟩ := alloc_step h d (.pointer (some ⟨w.heap.size, 0, none⟩)) i.zc.toArray T (.box T (i.zc.map lfOf)) (fun A' G' k1 k2 k3 =>
    ⟨w.heap.size, _, k1, heap_alloc_new w _, lfOf_rels _ _ _ i.zc hi.z.2, k2⟩)
  exact Runs.of_ok hr ⟨G', e1, e2, AV.rel_of ⟨w.heap.size, e3, rfl⟩⟩

theorem box_sound {P : Program} {F : Fr} {hp : Nat → Option Ob} {G : Gh} {ρ : Operand → Value} {o : Oper} {w : World} (T : TypeId) (x : Operand) (ho : o.op = .box T x) {agg : Bool} {ls : List Lf} (d : Nat) (h : RepH F hp G w) (hx : (AV.v agg ls).rel w G (Okay F hp G) (ρ x)) :
    Runs P ρ o w (Aft F hp G w (upd (scrH hp d d) d (some (.box T (ls.map (Lf.scrub d))))) (.v false [.p d 0]) [d]) := by
  obtain ⟨vs, h1, h2, h3⟩ := hx
  have hc : (ρ x).cells = vs.toArray := Array.toList_inj.1 (by rw [List.toList_toArray, h2]; exact cells_mkV h3 (relL_one h1))
  have hr : (execOp ρ o).run P w = .ok (.value (.pointer (some ⟨w.heap.size, 0, none⟩))) (w.alloc (.cells vs.toArray T)) := by
    simp only [execOp, ho, Instr.box, Sem.run_bind, Sem.run_pure, newVar, newRow, newObj, hc]
    rfl
  obtain ⟨G', e1, e2, e3⟩ := alloc_step h d (.pointer (some ⟨w.heap.size, 0, none⟩)) vs.toArray T (.box T (ls.map (Lf.scrub d))) (fun A' G' k1 k2 k3 =>
    ⟨w.heap.size, _, k1, heap_alloc_new w _, k3.lsS h1, k2⟩)
  exact Runs.of_ok hr ⟨G', e1, e2, AV.rel_of ⟨w.heap.size, e3, rfl⟩⟩

/-! ### composite literals -/
/-- parts laid into cells -/
def cFill (place : Nat → Option (Nat × Nat)) (cells : List Lf) : List (Nat × AV) → Option (List Lf)
  | [] => some cells
  | (i, x) :: r => match place i, x with
    | some (off, size), .v _ ls => bif Nat.beq ls.length size && Nat.ble (off + ls.length) cells.length then cFill place (cells.take off ++ ls ++ cells.drop (off + ls.length)) r else none
    | _, _ => none

theorem fold_seg : ∀ (vs : List Value) (off k : Nat) (cur : Array Value), off + k + vs.length ≤ cur.size →
    ((vs.zipIdx k).foldl (fun cs (x : Value × Nat) => cs.setIfInBounds (off + x.2) x.1) cur).toList = cur.toList.take (off + k) ++ vs ++ cur.toList.drop (off + k + vs.length)
  | [], off, k, cur, _ => by simp
  | v :: vs, off, k, cur, h => by
    simp only [List.length_cons] at h
    rw [List.zipIdx_cons, List.foldl_cons, fold_seg vs off (k + 1) _ (by simp; omega)]
    have e := list_seg_step cur.toList (off + k) v vs (by simp; omega)
    rw [Array.toList_setIfInBounds, ← Nat.add_assoc]
    exact e

def relP (w : World) (G : Gh) (A : Nat → Prop) : List (Nat × AV) → List (Nat × Value) → Prop
  | [], vs => vs = []
  | x :: xs, vs => ∃ v r, vs = (x.1, v) :: r ∧ x.2.rel w G A v ∧ relP w G A xs r

theorem cFill_rel {w : World} {G : Gh} {A : Nat → Prop} (place : Nat → Option (Nat × Nat)) : ∀ (ps : List (Nat × AV)) (cells ls : List Lf) (vs : List (Nat × Value)) (cur : Array Value),
    cFill place cells ps = some ls → relP w G A ps vs → relL w G A cells cur.toList → ∃ res, Instr.fill place cur vs = some res ∧ relL w G A ls res.toList
  | [], cells, ls, vs, cur, e, h, hl => by
    obtain rfl := (show vs = _ from h)
    cases e
    exact ⟨cur, rfl, hl⟩
  | (i, x) :: r, cells, ls, vs, cur, e, h, hl => by
    obtain ⟨v, r', rfl, h1, h2⟩ := h
    unfold cFill at e
    split at e
    · rename_i off size agg ls' hpl
      cases hq : (Nat.beq ls'.length size && Nat.ble (off + ls'.length) cells.length)
      · rw [hq] at e; cases e
      · rw [hq] at e
        simp only [cond_true] at e
        obtain ⟨q1, q2⟩ := Bool.and_eq_true_iff.1 hq
        have q1 := Nat.eq_of_beq_eq_true q1
        have q2 := Nat.le_of_ble_eq_true q2
        obtain ⟨us, u1, u2, u3⟩ := h1
        have hc : v.cells.toList = us := by rw [u2]; exact cells_mkV u3 (relL_one u1)
        have ul : us.length = ls'.length := relL_len u1
        have cl := relL_len hl
        have hsz : v.cells.size = us.length := by rw [← Array.length_toList, hc]
        have cl' : cur.size = cells.length := by rw [← Array.length_toList]; exact cl
        have hfold : (v.cells.zipIdx.foldl (fun cs (x : Value × Nat) => cs.setIfInBounds (off + x.2) x.1) cur).toList = cur.toList.take off ++ us ++ cur.toList.drop (off + us.length) := by
          rw [← Array.foldl_toList, Array.toList_zipIdx, hc]
          exact fold_seg us off 0 cur (by omega)
        obtain ⟨res, k1, k2⟩ := cFill_rel place r _ ls r' _ e h2 (by rw [hfold]; exact relL_splice hl u1 off)
        refine ⟨res, ?_, k2⟩
        unfold Instr.fill
        simp only [hpl]
        rw [if_neg (by simp only [ne_eq, Bool.or_eq_true, decide_eq_true_eq, not_or, Nat.not_lt, Decidable.not_not]; omega)]
        exact k1
    · cases e

def structPlace (tl : TypeId → Option TI) (fs : List (Nat × TypeId)) (i : Nat) : Option (Nat × Nat) :=
  match fs[i]? with
  | some (off, ft) => (tl ft).map fun j => (off, j.size)
  | none => none

theorem relP_map {w : World} {G : Gh} {A : Nat → Prop} {ρ : Operand → Value} {ev : Operand → AV} (h : ∀ x, (ev x).rel w G A (ρ x)) : ∀ (ps : List (Nat × Operand)), relP w G A (ps.map fun p => (p.1, ev p.2)) (ps.map fun p => (p.1, ρ p.2))
  | [] => rfl
  | p :: ps => ⟨_, _, rfl, h p.2, relP_map h ps⟩

theorem mapM_fields {P : Program} {w : World} {tl : TypeId → Option TI} (htl : ∀ t i, tl t = some i → i.ok P t) : ∀ (fs : List Field), (∀ f ∈ fs, (tl f.type).isSome) →
    (fs.mapM fun f => (do pure (f.offset, ← sizeOf f.type) : Sem (Nat × Nat))).run P w = .ok (fs.map fun f => (f.offset, ((tl f.type).map (·.size)).getD 0)) w
  | [], _ => rfl
  | f :: fs, h => by
    have ih := mapM_fields (P := P) (w := w) htl fs (fun g hg => h g (by simp [hg]))
    obtain ⟨i, hi⟩ := Option.isSome_iff_exists.1 (h f (by simp))
    simp only [List.mapM_cons, Sem.run_bind, run_size (htl _ _ hi), Result.andThen_ok, Sem.run_pure, ih, List.map_cons, hi, Option.map_some, Option.getD_some]

theorem build_sound {P : Program} {F : Fr} {hp : Nat → Option Ob} {G : Gh} {ρ : Operand → Value} {o : Oper} {w : World} {tl : TypeId → Option TI} (htl : ∀ t i, tl t = some i → i.ok P t)
    (T : TypeId) (parts : Array (Nat × Operand)) (ho : o.op = .build T parts) {i : TI} (hi : i.ok P T) (h1 : i.agg = false → i.size = 1) {fs : List (Nat × TypeId)} (hk : i.kind = .struct fs) (hall : fs.all (fun f => (tl f.2).isSome) = true)
    {ev : Operand → AV} (hev : ∀ x, (ev x).rel w G (Okay F hp G) (ρ x)) {ls : List Lf} (e : cFill (structPlace tl fs) (i.zc.map lfOf) (parts.toList.map fun p => (p.1, ev p.2)) = some ls) (h : RepH F hp G w) :
    Runs P ρ o w (Aft F hp G w hp (.v true ls) []) := by
  obtain ⟨d, hd, hkk⟩ := hi.und
  rw [hk] at hkk
  obtain ⟨hagg, a, rfl, rfl⟩ := hkk
  have hsome : ∀ f ∈ a.toList, (tl f.type).isSome := by
    intro f hf
    rw [List.all_eq_true] at hall
    exact hall (f.offset, f.type) (List.mem_map.2 ⟨f, hf, rfl⟩)
  have hm := mapM_fields (P := P) (w := w) htl a.toList hsome
  obtain ⟨res, k1, k2⟩ := cFill_rel _ _ _ ls (parts.toList.map fun p => (p.1, ρ p.2)) i.zc.toArray e (relP_map hev _) (lfOf_rels _ _ _ i.zc hi.z.2)
  have hplace : structPlace tl (a.toList.map fun f => (f.offset, f.type)) = fun j => (a.toList.map fun f => (f.offset, ((tl f.type).map (·.size)).getD 0)).toArray[j]? := by
    funext j
    unfold structPlace
    simp only [List.getElem?_map, List.getElem?_toArray]
    cases hj : a.toList[j]? with
    | none => rfl
    | some f =>
      obtain ⟨i, hi⟩ := Option.isSome_iff_exists.1 (hsome f (List.mem_of_getElem? hj))
      simp [hi]
  rw [hplace] at k1
  have hr : (execOp ρ o).run P w = .ok (.value (.agg res)) w := by
    simp only [execOp, ho, Instr.build, Sem.run_bind, run_zero hi, Result.andThen_ok, run_underlying hd, hi.zcells h1, Array.mapM_eq_mapM_toList, Sem.run_map, hm]
    simp only [Array.toList_map, k1]
    rfl
  exact Runs.of_ok hr (Aft.still h ⟨res.toList, k2, by simp [mkV], fun ha => by cases ha⟩)
theorem buildArr_sound {P : Program} {F : Fr} {hp : Nat → Option Ob} {G : Gh} {ρ : Operand → Value} {o : Oper} {w : World}
    (T : TypeId) (parts : Array (Nat × Operand)) (ho : o.op = .build T parts) {i j : TI} (hi : i.ok P T) (h1 : i.agg = false → i.size = 1) {m : Nat} {el : TypeId} (hk : i.kind = .array m el) (hj : j.ok P el)
    {ev : Operand → AV} (hev : ∀ x, (ev x).rel w G (Okay F hp G) (ρ x)) {ls : List Lf} (e : cFill (fun q => some (q * j.size, j.size)) (i.zc.map lfOf) (parts.toList.map fun p => (p.1, ev p.2)) = some ls) (h : RepH F hp G w) :
    Runs P ρ o w (Aft F hp G w hp (.v true ls) []) := by
  obtain ⟨d, hd, hkk⟩ := hi.und
  rw [hk] at hkk
  rw [hkk.1] at hd
  obtain ⟨res, k1, k2⟩ := cFill_rel _ _ _ ls (parts.toList.map fun p => (p.1, ρ p.2)) i.zc.toArray e (relP_map hev _) (lfOf_rels _ _ _ i.zc hi.z.2)
  have hr : (execOp ρ o).run P w = .ok (.value (.agg res)) w := by
    simp only [execOp, ho, Instr.build, Sem.run_bind, run_zero hi, Result.andThen_ok, run_underlying hd, hi.zcells h1, run_size hj]
    simp only [Array.toList_map, k1]
    rfl
  exact Runs.of_ok hr (Aft.still h ⟨res.toList, k2, by simp [mkV], fun ha => by cases ha⟩)

/-! part SxG -/
theorem map_range_mod {zc : List Value} {size : Nat} (hz : zc.length = size) (hp : 0 < size) (z : Array Value) (hzz : z.toList = zc) : ∀ n, ((Array.range (n * size)).map fun i => z[i % z.size]!).toList = (List.replicate n zc).flatten
  | 0 => by simp
  | n + 1 => by
    have ih := map_range_mod hz hp z hzz n
    have hs : z.size = size := by rw [← Array.length_toList, hzz, hz]
    rw [Array.toList_map, Array.toList_range] at ih ⊢
    rw [Nat.add_mul, Nat.one_mul, List.range_add, List.map_append, ih, List.replicate_succ', List.flatten_append]
    congr 1
    rw [List.map_map]
    simp only [List.flatten_cons, List.flatten_nil, List.append_nil]
    apply List.ext_getElem
    · simp [hz]
    · intro j h1 h2
      simp only [List.length_map, List.length_range] at h1
      simp only [List.getElem_map, List.getElem_range, Function.comp]
      have : (n * size + j) % z.size = j := by rw [hs, Nat.mul_comm, Nat.mul_add_mod, Nat.mod_eq_of_lt h1]
      rw [this, getElem!_pos z j (by omega)]
      simp only [← hzz, Array.getElem_toList]

theorem relL_flatten {w : World} {G : Gh} {A : Nat → Prop} {ls : List Lf} {vs : List Value} (h : relL w G A ls vs) : ∀ n, relL w G A (List.replicate n ls).flatten (List.replicate n vs).flatten
  | 0 => rfl
  | n + 1 => by rw [List.replicate_succ, List.replicate_succ, List.flatten_cons, List.flatten_cons]; exact relL_append h (relL_flatten h n)

theorem rdL_replicate {w : World} {A : Nat → Prop} (t : Ty) : ∀ n, rdL w A t (List.replicate n t.dflt) (List.replicate n t.zc).flatten
  | 0 => rfl
  | n + 1 => by rw [List.replicate_succ, List.replicate_succ, List.flatten_cons]; exact ⟨t.zc, _, rfl, zc_rd t, rdL_replicate t n⟩

theorem buildSlice_run {P : Program} {F : Fr} {hp : Nat → Option Ob} {G : Gh} {ρ : Operand → Value} {o : Oper} {w : World} (T E : TypeId) (n : Nat) (parts : Array (Nat × Operand)) (ho : o.op = .buildSlice T n parts)
    {i j : TI} (hi : i.ok P T) (hk : i.kind = .slice E) (hj : j.ok P E) (h1 : j.agg = false → j.size = 1) (hz : 0 < j.size) (hb : n * j.size ≤ 1000000)
    {ev : Operand → AV} (hev : ∀ x, (ev x).rel w G (Okay F hp G) (ρ x)) {ls : List Lf}
    (e : cFill (fun i => some (i * j.size, j.size)) (List.replicate n (j.zc.map lfOf)).flatten (parts.toList.map fun p => (p.1, ev p.2)) = some ls) :
    ∃ res, relL w G (Okay F hp G) ls res.toList ∧ n ≤ maxLen ∧ (execOp ρ o).run P w = .ok (.value (.slice (some ⟨w.heap.size, 0, none⟩) n n)) (w.alloc (.cells res E)) := by
  have hcells : (mkV j.agg j.zc).cells.toList = j.zc := by rw [hj.zcells h1]
  have hinit : ((Array.range (n * j.size)).map fun i => (if n * j.size = 0 then (#[] : Array Value) else (mkV j.agg j.zc).cells)[i % (if n * j.size = 0 then (#[] : Array Value) else (mkV j.agg j.zc).cells).size]!).toList = (List.replicate n j.zc).flatten := by
    by_cases h0 : n * j.size = 0
    · have : n = 0 := by
        rcases Nat.mul_eq_zero.1 h0 with q | q
        · exact q
        · omega
      subst this
      simp
    · simp only [h0, if_false]
      exact map_range_mod hj.z.1 hz _ hcells n
  obtain ⟨res, k1, k2⟩ := cFill_rel (fun i => some (i * j.size, j.size)) _ _ ls (parts.toList.map fun p => (p.1, ρ p.2)) _ e (relP_map hev _) (by rw [hinit]; exact relL_flatten (lfOf_rels _ _ _ j.zc hj.z.2) n)
  have hle : ¬ n * j.size > 2 ^ 24 := by omega
  have hr : (execOp ρ o).run P w = .ok (.value (.slice (some ⟨w.heap.size, 0, none⟩) n n)) (w.alloc (.cells res E)) := by
    by_cases h0 : n * j.size = 0
    · have hle0 : ¬ (0 : Nat) > 2 ^ 24 := by decide
      simp only [h0, if_true] at k1
      simp only [execOp, ho, Instr.buildSlice, Sem.run_bind, Result.andThen_ok, run_underlying (hi.slice hk), run_size hj, h0, hle0, if_false, if_true, Sem.run_pure, Array.toList_map, k1, newRow, newObj]
      rfl
    · simp only [h0, if_false] at k1
      simp only [execOp, ho, Instr.buildSlice, Sem.run_bind, Result.andThen_ok, run_underlying (hi.slice hk), run_size hj, hle, if_false, h0, run_zero hj, Sem.run_pure, Array.toList_map, k1, newRow, newObj]
      rfl
  have hn : n ≤ maxLen := by
    have : n * 1 ≤ n * j.size := Nat.mul_le_mul_left _ hz
    have : (1000000 : Nat) ≤ maxLen := by decide
    omega
  exact ⟨res, k2, hn, hr⟩
theorem buildSlice_sound {P : Program} {F : Fr} {hp : Nat → Option Ob} {G : Gh} {ρ : Operand → Value} {o : Oper} {w : World} (T E : TypeId) (n : Nat) (parts : Array (Nat × Operand)) (ho : o.op = .buildSlice T n parts)
    {i j : TI} (hi : i.ok P T) (hk : i.kind = .slice E) (hj : j.ok P E) (h1 : j.agg = false → j.size = 1) (hz : 0 < j.size) (hb : n * j.size ≤ 1000000)
    {ev : Operand → AV} (hev : ∀ x, (ev x).rel w G (Okay F hp G) (ρ x)) {ls : List Lf} (d : Nat)
    (e : cFill (fun i => some (i * j.size, j.size)) (List.replicate n (j.zc.map lfOf)).flatten (parts.toList.map fun p => (p.1, ev p.2)) = some ls) (h : RepH F hp G w) :
    Runs P ρ o w (Aft F hp G w (upd (scrH hp d d) d (some (.arr E n (ls.map (Lf.scrub d))))) (.v false [.o d]) [d]) := by
  obtain ⟨res, k2, hn, hr⟩ := buildSlice_run T E n parts ho hi hk hj h1 hz hb hev e
  obtain ⟨G', e1, e2, e3⟩ := alloc_step h d (.slice (some ⟨w.heap.size, 0, none⟩) n n) res E (.arr E n (ls.map (Lf.scrub d))) (fun A' G' k3 k4 k5 =>
    ⟨w.heap.size, _, k3, hn, heap_alloc_new w _, k5.lsS k2, k4⟩)
  exact Runs.of_ok hr ⟨G', e1, e2, AV.rel_of ⟨e3.symm, rfl⟩⟩

theorem owns_foot {w : World} {E : TypeId} {size n : Nat} {v : Value} {vs : List Value} (h : w.ownsRow 0 E size v n vs) {k : Nat} (hk : v.ownBlock = some k) : k < w.heap.size := (h.lt k hk).2

theorem make_sound {P : Program} {F : Fr} {hp : Nat → Option Ob} {G : Gh} {ρ : Operand → Value} {o : Oper} {w : World} (T E : TypeId) (x y : Operand) (ho : o.op = .makeSlice T x y)
    {i j : TI} {t : Ty} (hi : i.ok P T) (hk : i.kind = .slice E) (hj : TyOk P E j t) (h1 : j.agg = false → j.size = 1) {n : Int} {k1 k2 : IntKind} (hx : ρ x = .int k1 n) (hy : ρ y = .int k2 n) (h0 : 0 ≤ n) (hb : n * j.bytes ≤ 140737488355328) (h63 : n ≤ 1000000000000)
    (d : Nat) (h : RepH F hp G w) :
    Runs P ρ o w (Aft F hp G w (upd (scrH hp d d) d (some (.row E t (List.replicate n.toNat t.dflt)))) (.v false [.o d]) [d]) := by
  obtain ⟨jj, j1, j2, j3, j4⟩ := hj.ok.info
  obtain ⟨m, rfl⟩ : ∃ m : Nat, n = m := ⟨n.toNat, by omega⟩
  have hb' : jj.bytes * m ≤ 281474976710656 := by
    rw [j4, Nat.mul_comm]
    have : ((m * j.bytes : Nat) : Int) ≤ 140737488355328 := by rw [Int.natCast_mul]; exact hb
    omega
  have hmax : m ≤ maxLen := by rw [maxLen_eq]; omega
  have hb2 : (jj.bytes : Int) * (m : Int) ≤ 281474976710656 := by
    have : ((jj.bytes * m : Nat) : Int) ≤ 281474976710656 := by omega
    rwa [Int.natCast_mul] at this
  have hrun := run_make (P := P) w T E jj _ (hi.slice hk) j1 j2 k1 k2 m m (by omega) (Int.le_refl _) hb2 (by omega)
  simp only [Int.toNat_natCast] at hrun ⊢
  rw [j3] at hrun
  have hcells : (mkV j.agg j.zc).cells = t.zc.toArray := by rw [hj.ok.zcells h1, hj.zc]
  rw [hcells] at hrun
  have hsz : t.zc.length = t.size := by rw [← hj.zc, hj.ok.z.1, hj.sz]
  have hlist : (madeCells t.zc.toArray (m * j.size)).toList = (List.replicate m t.zc).flatten := by
    rw [hj.sz]
    exact map_range_mod hsz t.size_pos t.zc.toArray (by simp) m
  have hr : (execOp ρ o).run P w = .ok (.value (.slice (some ⟨w.heap.size, 0, none⟩) m m)) (w.alloc (.cells (madeCells t.zc.toArray (m * j.size)) E)) := by
    simp only [execOp, ho, Sem.run_bind, hx, hy, hrun, Result.andThen_ok, Sem.run_pure]
  obtain ⟨G', e1, e2, e3⟩ := alloc_step h d (.slice (some ⟨w.heap.size, 0, none⟩) m m) _ E (.row E t (List.replicate m t.dflt)) (fun A' G' k3 k4 k5 => by
    refine ⟨_, rdL_replicate t m, ?_, fun k => by rw [k3]; exact (k4 k).trans ⟨fun e => by rw [e]; rfl, fun e => by cases e; rfl⟩⟩
    rw [k3, List.length_replicate]
    have := World.ownsRow_lit (e := E) (base := 0) (size := t.size) w (madeCells t.zc.toArray (m * j.size)) m (Nat.zero_le _) hmax (by rw [size_madeCells, hj.sz])
    rw [hlist] at this
    exact this)
  exact Runs.of_ok hr ⟨G', e1, e2, AV.rel_of ⟨e3.symm, rfl⟩⟩

/-! ### append -/
/-- a slice as data that are read: what lies there -/
def packN (t : Ty) : Nat → List Lf → Option (List t.den)
  | 0, [] => some []
  | 0, _ => none
  | n + 1, ls => match t.pack ls with
    | some (x, r) => (packN t n r).map (x :: ·)
    | none => none
theorem packN_rd {w : World} {G : Gh} {A : Nat → Prop} {t : Ty} : ∀ (n : Nat) (ls : List Lf) (l : List t.den) (vs : List Value), packN t n ls = some l → relL w G A ls vs → rdL w A t l vs ∧ l.length = n
  | 0, [], l, vs, e, h => by cases e; exact ⟨h, rfl⟩
  | 0, _ :: _, l, vs, e, h => by cases e
  | n + 1, ls, l, vs, e, h => by
    unfold packN at e
    split at e
    · rename_i x r hp
      rw [Option.map_eq_some_iff] at e
      obtain ⟨l', e1, rfl⟩ := e
      obtain ⟨c, q, rfl, k1, k2⟩ := pack_rd t ls x r vs hp h
      obtain ⟨m1, m2⟩ := packN_rd n r l' q e1 k2
      exact ⟨⟨c, q, rfl, k1, m1⟩, by simp [m2]⟩
    · cases e

theorem reads_rdB {w : World} {A : Nat → Prop} {t : Ty} {l : List t.den} {v : Value} {E : TypeId} {vs : List Value} (h1 : rdL w A t l vs) (h2 : w.ownsRow 0 E t.size v l.length vs) (hA : ∀ k, v.ownBlock = some k → A k) : (Ty.slice t).rd w A l [v] := by
  obtain ⟨ao, cap, rfl, h2, h3, h4, h5⟩ := sl_of_owns h2
  refine ⟨ao, cap, rfl, h2, h3, h5, fun i hi => ?_⟩
  have hr := rdL_at h1 i hi
  have hlen := rdL_len h1
  have hs := t.size_pos
  have hm : (i + 1) * t.size ≤ l.length * t.size := Nat.mul_le_mul_right _ hi
  have hin : i * t.size < vs.length := by rw [hlen]; rw [Nat.add_mul, Nat.one_mul] at hm; omega
  obtain ⟨b, off, hao, hc⟩ := h4 _ hin
  have hb : b < w.heap.size := cell_lt hc
  refine ⟨b, off, _, hao, hA b (by rw [hao]; rfl), hb, hr, fun j hj => ?_⟩
  have hj' : j < t.size := by simp only [List.length_take] at hj; omega
  have hq : i * t.size + j < vs.length := by rw [hlen]; rw [Nat.add_mul, Nat.one_mul] at hm; omega
  obtain ⟨b', off', e, hc'⟩ := h4 _ hq
  rw [hao] at e
  cases e
  rw [hc', List.getElem_take, List.getElem_drop]

theorem RepH.after {F : Fr} {hp : Nat → Option Ob} {G : Gh} {w w' : World} (h : RepH F hp G w) (ho : Only (fun _ => False) w w') : RepH F hp G w' ∧ Ext (Foot hp G) (Okay F hp G) G w (Okay F hp G) G w' [] := by
  have hon : Only (Foot hp G) w w' := ⟨ho.os, ho.tape, ho.output, ho.size, fun k hk _ => ho.block k hk id⟩
  have hx : Ext (Foot hp G) (Okay F hp G) G w (Okay F hp G) G w' [] := ⟨hon, fun _ _ h => h, Okay.apart, fun _ _ => rfl⟩
  refine ⟨⟨fun b ob hb => (h.sat b ob hb).ext hx (by simp) (by simp) (fun k hk => ho.block k (h.bd b ob hb k hk).1 id) (fun _ => Iff.rfl), h.dj, fun b ob hb k hk => ?_, ?_, h.zs, h.tb⟩, hx⟩
  · have := h.bd b ob hb k hk
    exact ⟨Nat.lt_of_lt_of_le this.1 ho.size, this.2⟩
  · exact ⟨ho.os.trans h.fr.os, ho.tape.trans h.fr.tape, ho.output.trans h.fr.output, Nat.le_trans h.fr.size ho.size, fun k hk hn => (ho.block k (Nat.lt_of_lt_of_le hk h.fr.size) id).trans (h.fr.block k hk hn)⟩

/-- a slice that is built of data may be taken as data at once -/
theorem buildSlice_frz {P : Program} {F : Fr} {hp : Nat → Option Ob} {G : Gh} {ρ : Operand → Value} {o : Oper} {w : World} (T E : TypeId) (n : Nat) (parts : Array (Nat × Operand)) (ho : o.op = .buildSlice T n parts)
    {i j : TI} {t : Ty} (hi : i.ok P T) (hk : i.kind = .slice E) (hj : TyOk P E j t) (h1 : j.agg = false → j.size = 1) (hz : 0 < j.size) (hb : n * j.size ≤ 1000000)
    {ev : Operand → AV} (hev : ∀ x, (ev x).rel w G (Okay F hp G) (ρ x)) {ls : List Lf} {l : List t.den}
    (e : cFill (fun i => some (i * j.size, j.size)) (List.replicate n (j.zc.map lfOf)).flatten (parts.toList.map fun p => (p.1, ev p.2)) = some ls) (hl : packN t n ls = some l) (h : RepH F hp G w) :
    Runs P ρ o w (Aft F hp G w hp (.v false [.d (.slice t) l]) []) := by
  obtain ⟨res, k2, hn, hr⟩ := buildSlice_run T E n parts ho hi hk hj.ok h1 hz hb hev e
  obtain ⟨m1, m2⟩ := packN_rd n ls l _ hl k2
  obtain ⟨r1, r2⟩ := h.after (w' := w.alloc (.cells res E)) ((Only.refl _ _).alloc _)
  refine Runs.of_ok hr ⟨G, r2, r1, AV.rel_of (l := .d (.slice t) l) ?_⟩
  have hlen := rdL_len m1
  subst m2
  have hlit := World.ownsRow_lit (e := E) (base := 0) (size := t.size) w res l.length (Nat.zero_le _) hn (by rw [← hlen]; simp)
  refine reads_rdB (rdL_mono ((Only.refl (fun _ => False) w).alloc (.cells res E)).size (fun b hb' hlt => ⟨hb', ?_⟩) m1) hlit ?_
  · exact ((Only.refl (fun _ => False) w).alloc (.cells res E)).block b hlt id
  · intro k hk'
    cases hk'
    refine ⟨.inr h.fr.size, fun hf => ?_⟩
    have := h.lt hf
    exact absurd this (Nat.lt_irrefl _)

def castL {u v : Ty} (h : u = v) (l : List u.den) : List v.den := h ▸ l

def asList (hp : Nat → Option Ob) (t : Ty) : Lf → Option (List t.den)
  | .nl => some []
  | .d u l => if h : u = .slice t then some (castD h l) else none
  | .o b => match hp b with
    | some (.row _ u l) => if h : u = t then some (castL h l) else none
    | some (.arr _ n cs) => packN t n cs
    | _ => none
  | .vw b lo n s => match hp b with
    | some (.row _ u l) => if h : u = t then (bif Nat.beq s u.size then some (((castL h l).drop lo).take n) else none) else none
    | _ => none
  | _ => none

/-- a slice value whose cells can be read -/
def Reads (w : World) (A : Nat → Prop) (t : Ty) (v : Value) (l : List t.den) : Prop :=
  ∃ vs, rdL w A t l vs ∧ SlN w v l.length vs

theorem rdL_of_rd {w : World} {A : Nat → Prop} {t : Ty} : ∀ (l : List t.den) (cs : Nat → List Value), (∀ i (h : i < l.length), t.rd w A l[i] (cs i)) → ∃ vs, rdL w A t l vs ∧ ∀ i (h : i < l.length) j (hj : j < (cs i).length), vs[i * t.size + j]? = some (cs i)[j]
  | [], cs, _ => ⟨[], rfl, fun i h => by simp at h⟩
  | x :: xs, cs, h => by
    obtain ⟨vs, k1, k2⟩ := rdL_of_rd xs (fun i => cs (i + 1)) (fun i hi => h (i + 1) (by simpa using hi))
    have h0 := h 0 (by simp)
    have hl := Ty.rd_len t x (cs 0) h0
    refine ⟨cs 0 ++ vs, ⟨cs 0, vs, rfl, h0, k1⟩, fun i hi j hj => ?_⟩
    cases i with
    | zero => rw [Nat.zero_mul, Nat.zero_add, List.getElem?_append_left hj, List.getElem?_eq_getElem hj]
    | succ i =>
      have e : (i + 1) * t.size + j = (cs 0).length + (i * t.size + j) := by rw [Nat.add_mul, hl]; omega
      rw [e, List.getElem?_append_right (by omega), Nat.add_sub_cancel_left]
      exact k2 i (by simpa using hi) j hj

theorem rd_reads {w : World} {A : Nat → Prop} {t : Ty} {l : List t.den} {v : Value} (h : (Ty.slice t).rd w A l [v]) : Reads w A t v l := by
  obtain ⟨ao, cap, h0, h1, h2, h3, h4⟩ := h
  cases h0
  cases l with
  | nil => exact ⟨[], rfl, ao, cap, rfl, h1, h2, fun i hi => by simp at hi, h3⟩
  | cons x xs =>
    obtain ⟨b, off, _, rfl, _⟩ := h4 0 (by simp)
    have h5 : ∀ i, ∃ es, ∀ (h : i < (x :: xs).length), t.rd w A (x :: xs)[i] es ∧ ∀ j (hj : j < es.length), w.cell? ⟨b, off + (i * t.size + j), none⟩ = some es[j] := by
      intro i
      by_cases hi : i < (x :: xs).length
      · obtain ⟨b', off', es, e, _, _, k1, k2⟩ := h4 i hi
        cases e
        exact ⟨es, fun _ => ⟨k1, k2⟩⟩
      · exact ⟨[], fun h => absurd h hi⟩
    obtain ⟨cs, hcs⟩ := Classical.axiomOfChoice h5
    obtain ⟨vs, k1, k2⟩ := rdL_of_rd (x :: xs) cs (fun i hi => (hcs i hi).1)
    refine ⟨vs, k1, some ⟨b, off, none⟩, cap, rfl, h1, h2, fun q hq => ⟨b, off, rfl, ?_⟩, fun e => by cases e⟩
    have hvl := rdL_len k1
    have hs := t.size_pos
    have hi : q / t.size < (x :: xs).length := by rw [Nat.div_lt_iff_lt_mul hs]; omega
    have hl := Ty.rd_len t _ _ (hcs _ hi).1
    have hj : q % t.size < (cs (q / t.size)).length := by rw [hl]; exact Nat.mod_lt _ hs
    have e : q / t.size * t.size + q % t.size = q := by rw [Nat.mul_comm]; exact Nat.div_add_mod q t.size
    have c1 := (hcs _ hi).2 _ hj
    have c2 := k2 _ hi _ hj
    rw [e] at c1 c2
    rw [c1, ← c2, List.getElem?_eq_getElem hq]

theorem rdL_drop {w : World} {A : Nat → Prop} {t : Ty} : ∀ {l : List t.den} {vs : List Value} (n : Nat), rdL w A t l vs → rdL w A t (l.drop n) (vs.drop (n * t.size))
  | l, vs, 0, h => by simpa using h
  | [], vs, n + 1, h => by rw [show vs = _ from h]; simp [rdL]
  | x :: xs, vs, n + 1, h => by
    obtain ⟨c, r, rfl, h1, h2⟩ := h
    have h3 := Ty.rd_len t x c h1
    have := rdL_drop n h2
    have e : (c ++ r).drop ((n + 1) * t.size) = r.drop (n * t.size) := by
      rw [show (n + 1) * t.size = c.length + n * t.size by rw [Nat.add_mul, Nat.one_mul, h3]; omega, List.drop_append, List.drop_of_length_le (l := c) (by omega), List.nil_append, Nat.add_sub_cancel_left]
    rw [List.drop_succ_cons, e]
    exact this
theorem rdL_take {w : World} {A : Nat → Prop} {t : Ty} : ∀ {l : List t.den} {vs : List Value} (n : Nat), rdL w A t l vs → rdL w A t (l.take n) (vs.take (n * t.size))
  | l, vs, 0, h => by simp [rdL]
  | [], vs, n + 1, h => by rw [show vs = _ from h]; simp [rdL]
  | x :: xs, vs, n + 1, h => by
    obtain ⟨c, r, rfl, h1, h2⟩ := h
    have h3 := Ty.rd_len t x c h1
    refine ⟨c, r.take (n * t.size), ?_, h1, rdL_take n h2⟩
    rw [show (n + 1) * t.size = c.length + n * t.size by rw [Nat.add_mul, Nat.one_mul, h3]; omega, List.take_append, List.take_of_length_le (l := c) (by omega), Nat.add_sub_cancel_left]
/-- a part of a row: what it reads as -/
theorem vw_reads {w : World} {G : Gh} {A : Nat → Prop} {t : Ty} {E : TypeId} {b lo n : Nat} {l : List t.den} {vs : List Value} {v : Value} (k1 : rdL w A t l vs) (k2 : w.ownsRow 0 E t.size (G.r b) l.length vs) (hx : (Lf.vw b lo n t.size).rel w G A v) :
    Reads w A t v ((l.drop lo).take n) := by
  obtain ⟨ao, len, cap, ao', h1, h2, rfl, h4, h5, h6⟩ := hx
  obtain ⟨ao0, cap0, e0, c1, c2, c3, c4⟩ := sl_of_owns k2
  rw [h1] at e0
  cases e0
  have hlen := rdL_len k1
  have hl2 : ((l.drop lo).take n).length = n := by rw [List.length_take, List.length_drop]; omega
  refine ⟨_, rdL_take n (rdL_drop lo k1), ao', cap - lo, by rw [hl2], by rw [hl2]; omega, by omega, fun q hq => ?_, fun hn => by have := c4 (h6 hn); omega⟩
  have hb : (lo + n) * t.size ≤ l.length * t.size := Nat.mul_le_mul_right _ h2
  rw [Nat.add_mul] at hb
  simp only [List.length_take, List.length_drop] at hq
  have hq2 : q < n * t.size := by omega
  have hn0 : 0 < n := by
    rcases Nat.eq_zero_or_pos n with e | e
    · subst e; simp at hq2
    · exact e
  obtain ⟨g, g1, g2⟩ := h5 hn0
  refine ⟨g, lo * t.size, g2, ?_⟩
  obtain ⟨b', off', e', hc⟩ := c3 (lo * t.size + q) (by omega)
  rw [g1] at e'
  cases e'
  rw [Nat.zero_add] at hc
  rw [hc, List.getElem_take, List.getElem_drop]
theorem asList_reads {F : Fr} {hp : Nat → Option Ob} {G : Gh} {w : World} {t : Ty} {x : Lf} {l : List t.den} {v : Value} (e : asList hp t x = some l) (h : RepH F hp G w) (hx : x.rel w G (Okay F hp G) v) : Reads w (Okay F hp G) t v l := by
  unfold asList at e
  split at e
  · cases e
    obtain rfl := (show v = _ from hx)
    exact ⟨[], rfl, none, 0, rfl, Nat.le_refl _, Nat.zero_le _, fun i hi => by simp at hi, fun _ => rfl⟩
  · split at e
    · rename_i u l' hu
      subst hu
      cases e
      exact rd_reads hx
    · cases e
  · rename_i b
    obtain ⟨hv, h1⟩ := hx
    split at e
    · rename_i E u l' hb
      split at e
      · rename_i hu
        subst hu
        cases e
        obtain ⟨vs, k1, k2, k3⟩ := h.sat b _ hb
        rw [hv]
        exact ⟨vs, k1, sl_of_owns k2⟩
      · cases e
    · rename_i E n cs hb
      obtain ⟨g, vs, k1, k2, k3, k4, k5⟩ := h.sat b _ hb
      obtain ⟨m1, m2⟩ := packN_rd n cs l vs.toList e k4
      refine ⟨vs.toList, m1, some ⟨g, 0, none⟩, n, by rw [hv, k1, m2], by omega, k2, fun q hq => ⟨g, 0, rfl, ?_⟩, fun e => by cases e⟩
      rw [Nat.zero_add, cell_of_row w g q vs E (0, 0) k3, ← Array.getElem?_toList, List.getElem?_eq_getElem hq]
    · cases e
  · rename_i b lo n s
    split at e
    · rename_i E u l' hb
      split at e
      · rename_i hu
        subst hu
        cases hsz : Nat.beq s u.size
        · rw [hsz] at e; cases e
        · rw [hsz] at e
          cases e
          obtain rfl := Nat.eq_of_beq_eq_true hsz
          obtain ⟨vs, k1, k2, k3⟩ := h.sat b _ hb
          exact vw_reads k1 k2 hx
      · cases e
    · cases e
  · cases e

/-- what append may write to: nil, a named row, a literal -/
def ownOf (hp : Nat → Option Ob) (t : Ty) (d : Nat) : Lf → Option (Nat × List t.den)
  | .nl => some (d, [])
  | .o b => match hp b with
    | some (.row _ u l) => if h : u = t then some (b, castL h l) else none
    | some (.arr _ n cs) => (packN t n cs).map (b, ·)
    | _ => none
  | .vw b lo n s => match hp b with
    | some (.row _ u l) => if h : u = t then (bif Nat.beq lo 0 then some (b, (castL h l).take n) else none) else none
    | _ => none
  | _ => none
def rowE (hp : Nat → Option Ob) : Lf → TypeId → Bool
  | .nl, _ => true
  | .o b, E => match hp b with
    | some (.row E' _ _) => Nat.beq E' E
    | some (.arr E' _ _) => Nat.beq E' E
    | _ => false
  | .vw b _ _ _, E => match hp b with
    | some (.row E' _ _) => Nat.beq E' E
    | _ => false
  | _, _ => false

theorem owns_one {w : World} {base : Nat} {E : TypeId} {size n : Nat} {v : Value} {vs : List Value} (h : w.ownsRow base E size v n vs) : v.oneCell' = true := by
  rcases h.2 with ⟨rfl, _⟩ | ⟨g, cap, cur, rfl, _⟩ <;> rfl

theorem ownOf_owns {F : Fr} {hp : Nat → Option Ob} {G : Gh} {w : World} {t : Ty} {d b : Nat} {E : TypeId} {x : Lf} {l : List t.den} {v : Value} (e : ownOf hp t d x = some (b, l)) (hE : rowE hp x E = true) (h : RepH F hp G w) (hx : x.rel w G (Okay F hp G) v) :
    ∃ vs, rdL w (Okay F hp G) t l vs ∧ w.ownsRow 0 E t.size v l.length vs ∧ ∀ k, v.ownBlock = some k → ∃ o0, hp b = some o0 ∧ G.f b k := by
  unfold ownOf at e
  split at e
  · cases e
    obtain rfl := (show v = _ from hx)
    exact ⟨[], rfl, World.ownsRow_nil _ _ _ _, fun k hk => by cases hk⟩
  · rename_i b'
    obtain ⟨hv, h1⟩ := hx
    split at e
    · rename_i E' u l' hb
      simp only [rowE, hb] at hE
      obtain rfl := Nat.eq_of_beq_eq_true hE
      split at e
      · rename_i hu
        subst hu
        cases e
        obtain ⟨vs, k1, k2, k3⟩ := h.sat _ _ hb
        rw [hv]
        exact ⟨vs, k1, k2, fun k hk => ⟨_, hb, (k3 k).2 hk⟩⟩
      · cases e
    · rename_i E' n cs hb
      simp only [rowE, hb] at hE
      obtain rfl := Nat.eq_of_beq_eq_true hE
      rw [Option.map_eq_some_iff] at e
      obtain ⟨l', e1, e2⟩ := e
      cases e2
      obtain ⟨g, vs, k1, k2, k3, k4, k5⟩ := h.sat _ _ hb
      obtain ⟨m1, m2⟩ := packN_rd n cs l vs.toList e1 k4
      have hlen := rdL_len m1
      refine ⟨vs.toList, m1, ⟨by rw [hlen], .inr ⟨g, n, vs, by rw [hv, k1, m2], Nat.zero_le _, k3, by omega, k2, ?_, ?_⟩⟩, fun k hk => ?_⟩
      · rw [← Array.length_toList, hlen, m2]
      · rw [List.take_of_length_le (by rw [hlen]; exact Nat.le_refl _)]
      · rw [hv, k1] at hk
        cases hk
        exact ⟨_, hb, (k5 _).2 rfl⟩
    · cases e
  · rename_i b' lo n s
    split at e
    · rename_i E' u l' hb
      simp only [rowE, hb] at hE
      obtain rfl := Nat.eq_of_beq_eq_true hE
      split at e
      · rename_i hu
        subst hu
        cases hlo : Nat.beq lo 0
        · rw [hlo] at e; cases e
        · rw [hlo] at e
          cases e
          obtain rfl := Nat.eq_of_beq_eq_true hlo
          obtain ⟨vs, k1, k2, k3⟩ := h.sat _ _ hb
          obtain ⟨ao, len, cap, ao', h1, h2, rfl, h4, h5, h6⟩ := hx
          rw [h4 rfl]
          have hlen := rdL_len k1
          have hown : w.ownsRow 0 E' u.size (.slice ao n (cap - 0)) (l'.take n).length (vs.take (n * u.size)) := by
            obtain ⟨q1, q2⟩ := k2
            rw [h1] at q2
            have hn : n ≤ l'.length := by
              rcases q2 with ⟨e1, e2⟩ | ⟨g, cp, cur, e1, _⟩ <;> cases e1 <;> omega
            have hmul : n * u.size ≤ l'.length * u.size := Nat.mul_le_mul_right _ hn
            have hl2 : (l'.take n).length = n := by rw [List.length_take]; omega
            rw [hl2]
            refine ⟨by rw [List.length_take]; omega, ?_⟩
            rcases q2 with ⟨e1, e2⟩ | ⟨g, cp, cur, e1, e2, e3, e4, e5, e6, e7⟩
            · cases e1
              have : n = 0 := by omega
              subst this
              exact .inl ⟨rfl, rfl⟩
            · cases e1
              refine .inr ⟨g, cap, cur, rfl, e2, e3, by omega, e5, e6, ?_⟩
              rw [← e7, List.take_take, Nat.min_eq_left hmul]
          refine ⟨_, rdL_take n k1, hown, fun k hk => ⟨_, hb, (k3 k).2 ?_⟩⟩
          rw [h1]
          cases ao with
          | none => cases hk
          | some a => exact hk
      · cases e
    · cases e
  · cases e

theorem append_sound {P : Program} {F : Fr} {hp : Nat → Option Ob} {G : Gh} {ρ : Operand → Value} {o : Oper} {w : World} (T E : TypeId) (s x : Operand) (ho : o.op = .call { callee := .builtin .append, args := #[s, x], argTypes := #[T, T] })
    {i j : TI} {t : Ty} (hi : i.ok P T) (hk : i.kind = .slice E) (hj : TyOk P E j t) (h1 : j.agg = false → j.size = 1) {a c : Lf} {b d : Nat} {l m : List t.den}
    (e1 : ownOf hp t d a = some (b, l)) (e2 : rowE hp a E = true) (e3 : asList hp t c = some m) (hb : (l.length + m.length) * j.bytes ≤ 140737488355328) (h63 : l.length + m.length ≤ 1000000000000)
    (h : RepH F hp G w) (ha : a.rel w G (Okay F hp G) (ρ s)) (hc : c.rel w G (Okay F hp G) (ρ x)) :
    Runs P ρ o w (Aft F hp G w (upd (scrH hp b d) d (some (.row E t (l ++ m)))) (.v false [.o d]) [d]) := by
  obtain ⟨vs, v1, v2, v3⟩ := ownOf_owns e1 e2 h ha
  obtain ⟨us, u1, ao, cap, u2, u3, u4, u5, u6⟩ := asList_reads e3 h hc
  obtain ⟨jj, j1, j2, j3, j4⟩ := hj.ok.info
  have hmax : l.length + m.length ≤ maxLen := by rw [maxLen_eq]; omega
  have hcells : (mkV j.agg j.zc).cells.size = t.size := by rw [hj.ok.zcells h1, hj.zc, List.size_toArray, ← hj.zc, hj.ok.z.1, hj.sz]
  have hrun : ∃ v' w', (Builtin.append_ #[T, T] o.type #[ρ s, ρ x]).run P w = .ok v' w' ∧ w'.ownsRow 0 E t.size v' (l.length + m.length) (vs ++ us) ∧ w.grownBy w' (ρ s).ownBlock ∧ (v'.ownBlock = (ρ s).ownBlock ∨ v'.ownBlock = some w.heap.size) := by
    rw [u2]
    cases ao with
    | none =>
      have hc0 := u6 rfl
      subst hc0
      have hm : m = [] := List.eq_nil_of_length_eq_zero (by omega)
      subst hm
      obtain rfl := (show us = _ from u1)
      refine ⟨ρ s, w, run_append_owned_none (P := P) (w := w) 0 T o.type E jj t.size (hi.slice hk) j1 (ρ s) l.length vs v2, by simpa using v2, ⟨rfl, rfl, rfl, Nat.le_refl _, fun _ _ _ => rfl⟩, .inl rfl⟩
    | some ad =>
      obtain ⟨v', w', r1, r2, r3, _, r5⟩ := run_append_own_at (P := P) w 0 T o.type E jj _ t.size j.bytes (hi.slice hk) j1 j2 (by rw [j3, hj.sz]) j4 hcells t.size_pos (ρ s) l.length vs v2 ad m.length cap us (rdL_len u1) (fun q u hu => by
        obtain ⟨hq, rfl⟩ := List.getElem?_eq_some_iff.1 hu
        obtain ⟨g, off, e, hcell⟩ := u5 q hq
        cases e
        rw [addr_add0]
        exact hcell) (rdL_one u1) hmax hb (Nat.zero_le _)
      exact ⟨v', w', r1, r2, r3, r5⟩
  obtain ⟨v', w', r1, r2, r3, r4⟩ := hrun
  have hr : (execOp ρ o).run P w = .ok (.value v') w' := by
    simp only [execOp, ho, resolve, invoke, builtin, Sem.run_bind, Sem.run_pure, Result.andThen_ok, List.map_toArray, List.map_cons, List.map_nil, r1]
  obtain ⟨G', g1, g2, g3⟩ := grow_step h b d v' (fun k => v'.ownBlock = some k) (.row E t (l ++ m))
    (fun k hk hl => by
      rcases r4 with r4 | r4
      · rw [r4] at hk; exact v3 k hk
      · rw [r4] at hk; cases hk; omega)
    (fun k hk => owns_foot r2 hk)
    ((Only.refl _ _).grown r3 (fun k hk _ => v3 k hk))
    (fun A' G' q1 q2 _ q4 => by
      refine ⟨vs ++ us, ?_, ?_, fun k => by rw [q1]; exact q2 k⟩
      · have hmono : ∀ k, Okay F hp G k → k < w.heap.size → A' k ∧ w'.heap[k]? = w.heap[k]? := fun k k1 k2 => ⟨q4.keepA k k2 k1, q4.only.block k k2 (q4.apart k k1)⟩
        exact rdL_append (rdL_mono q4.only.size hmono v1) (rdL_mono q4.only.size hmono u1)
      · rw [q1, List.length_append]
        exact r2)
  exact Runs.of_ok hr ⟨G', g1, g2, AV.rel_of ⟨g3.symm, owns_one r2⟩⟩

/-- one element that is appended with cells that are not data yet -/
def opnL : Lf → Bool
  | .nl => true
  | .o _ => true
  | _ => false
def openE (hp : Nat → Option Ob) (t : Ty) : Lf → Option (List Lf)
  | .o k => match hp k with
    | some (.arr _ 1 cs) => bif cs.any opnL && Nat.beq cs.length t.size then some cs else none
    | _ => none
  | _ => none
theorem openE_reads {F : Fr} {hp : Nat → Option Ob} {G : Gh} {w : World} {t : Ty} {x : Lf} {cs : List Lf} {v : Value} (e : openE hp t x = some cs) (h : RepH F hp G w) (hx : x.rel w G (Okay F hp G) v) :
    cs.length = t.size ∧ ∃ vs g, relL w G (Okay F hp G) cs vs ∧ v = .slice (some ⟨g, 0, none⟩) 1 1 ∧ ∀ q (hq : q < vs.length), w.cell? ⟨g, q, none⟩ = some vs[q] := by
  unfold openE at e
  split at e
  · rename_i k
    split at e
    · rename_i E cs' hb
      cases hq : (cs'.any opnL && Nat.beq cs'.length t.size)
      · rw [hq] at e; cases e
      · rw [hq] at e
        cases e
        obtain ⟨g, vs, k1, k2, k3, k4, k5⟩ := h.sat k _ hb
        refine ⟨Nat.eq_of_beq_eq_true (Bool.and_eq_true_iff.1 hq).2, vs.toList, g, k4, hx.1.trans k1, fun q hq => ?_⟩
        rw [cell_of_row w g q vs E (0, 0) k3, ← Array.getElem?_toList, List.getElem?_eq_getElem hq]
    · cases e
  · cases e

theorem appendOpen_sound {P : Program} {F : Fr} {hp : Nat → Option Ob} {G : Gh} {ρ : Operand → Value} {o : Oper} {w : World} (T E : TypeId) (s x : Operand) (ho : o.op = .call { callee := .builtin .append, args := #[s, x], argTypes := #[T, T] })
    {i j : TI} {t : Ty} (hi : i.ok P T) (hk : i.kind = .slice E) (hj : TyOk P E j t) (h1 : j.agg = false → j.size = 1) {a c : Lf} {b d : Nat} {l : List t.den} {cs : List Lf}
    (e1 : ownOf hp t d a = some (b, l)) (e2 : rowE hp a E = true) (e3 : openE hp t c = some cs) (hb : (l.length + 1) * j.bytes ≤ 140737488355328) (h63 : l.length + 1 ≤ 1000000000000)
    (h : RepH F hp G w) (ha : a.rel w G (Okay F hp G) (ρ s)) (hc : c.rel w G (Okay F hp G) (ρ x)) :
    Runs P ρ o w (Aft F hp G w (upd (scrH hp b d) d (some (.rox E t l (cs.map (Lf.scrub d)) []))) (.v false [.o d]) [d]) := by
  obtain ⟨vs, v1, v2, v3⟩ := ownOf_owns e1 e2 h ha
  obtain ⟨u0, us, g0, u1, u2, u3⟩ := openE_reads e3 h hc
  obtain ⟨jj, j1, j2, j3, j4⟩ := hj.ok.info
  have hmax : l.length + 1 ≤ maxLen := by rw [maxLen_eq]; omega
  have hcells : (mkV j.agg j.zc).cells.size = t.size := by rw [hj.ok.zcells h1, hj.zc, List.size_toArray, ← hj.zc, hj.ok.z.1, hj.sz]
  have hul : us.length = t.size := by rw [relL_len u1, u0]
  obtain ⟨v', w', r1, r2, r3, _, r4⟩ := run_append_own_at (P := P) w 0 T o.type E jj (mkV j.agg j.zc) t.size j.bytes (hi.slice hk) j1 j2 (by rw [j3, hj.sz]) j4 hcells t.size_pos (ρ s) l.length vs v2 ⟨g0, 0, none⟩ 1 1 us (by rw [hul, Nat.one_mul]) (fun q u hu => by
    obtain ⟨hq, rfl⟩ := List.getElem?_eq_some_iff.1 hu
    rw [addr_add0, Nat.zero_add]
    exact u3 q hq) (relL_one u1) hmax hb (Nat.zero_le _)
  have hr : (execOp ρ o).run P w = .ok (.value v') w' := by
    simp only [execOp, ho, resolve, invoke, builtin, Sem.run_bind, Sem.run_pure, Result.andThen_ok, List.map_toArray, List.map_cons, List.map_nil, u2, r1]
  obtain ⟨G', g1, g2, g3⟩ := grow_step h b d v' (fun k => v'.ownBlock = some k) (.rox E t l (cs.map (Lf.scrub d)) [])
    (fun k hk hl => by
      rcases r4 with r4 | r4
      · rw [r4] at hk; exact v3 k hk
      · rw [r4] at hk; cases hk; omega)
    (fun k hk => owns_foot r2 hk)
    ((Only.refl _ _).grown r3 (fun k hk _ => v3 k hk))
    (fun A' G' q1 q2 _ q4 => by
      have hmono : ∀ k, Okay F hp G k → k < w.heap.size → A' k ∧ w'.heap[k]? = w.heap[k]? := fun k k1 k2 => ⟨q4.keepA k k2 k1, q4.only.block k k2 (q4.apart k k1)⟩
      refine ⟨vs, us, [], rdL_mono q4.only.size hmono v1, q4.lsS u1, hul, rfl, ?_, fun k => by rw [q1]; exact q2 k⟩
      rw [q1, List.append_nil]
      exact r2)
  exact Runs.of_ok hr ⟨G', g1, g2, AV.rel_of ⟨g3.symm, owns_one r2⟩⟩

/-! part SxH -/
def kmin : IntKind → Int
  | .i8 => -128
  | .i16 => -32768
  | .i32 => -2147483648
  | .i64 => -9223372036854775808
  | _ => 0
def kmax : IntKind → Int
  | .i8 => 127
  | .i16 => 32767
  | .i32 => 2147483647
  | .i64 => 9223372036854775807
  | .u8 => 255
  | .u16 => 65535
  | .u32 => 4294967295
  | .u64 => 18446744073709551615
theorem kmin_eq (k : IntKind) : kmin k = k.min := by cases k <;> decide
theorem kmax_eq (k : IntKind) : kmax k = k.max := by cases k <;> decide
theorem wrap_in (k : IntKind) (n : Int) (h1 : kmin k ≤ n) (h2 : n ≤ kmax k) : k.wrap n = n := by
  cases k <;> simp only [kmin, kmax] at h1 h2
  · exact IntWalk.i8_in n ⟨h1, h2⟩
  · exact IntWalk.i16_in n ⟨h1, h2⟩
  · exact IntWalk.i32_in n ⟨h1, h2⟩
  · exact IntWalk.i64_in n ⟨h1, h2⟩
  · exact IntWalk.u8_in n ⟨h1, h2⟩
  · exact IntWalk.u16_in n ⟨h1, h2⟩
  · exact IntWalk.u32_in n ⟨h1, h2⟩
  · exact IntWalk.u64_in n ⟨h1, h2⟩

def mkI (k : IntKind) (n : Int) : Lf := .d (.int k) n
def mkB (b : Bool) : Lf := .d .bool b
def mkS (s : ByteArray) : Lf := .d .str s
theorem mkI_rel {w : World} {G : Gh} {A : Nat → Prop} {k : IntKind} {n : Int} (h1 : kmin k ≤ n) (h2 : n ≤ kmax k) : (mkI k n).rel w G A (.int k n) := ⟨rfl, by rw [← kmin_eq]; exact h1, by rw [← kmax_eq]; exact h2⟩
theorem mkB_rel {w : World} {G : Gh} {A : Nat → Prop} {b : Bool} : (mkB b).rel w G A (.bool b) := rfl

/-- two numbers or strings reckoned with -/
def cBinI (op : BinOp) (k : IntKind) (a b : Int) : Option (Prop × Lf) :=
  match op with
  | .add => some (kmin k ≤ a + b ∧ a + b ≤ kmax k, mkI k (a + b))
  | .sub => some (kmin k ≤ a - b ∧ a - b ≤ kmax k, mkI k (a - b))
  | .mul => some (kmin k ≤ a * b ∧ a * b ≤ kmax k, mkI k (a * b))
  | .quo => some (0 ≤ a ∧ 0 < b, mkI k (a / b))
  | .rem => some (0 ≤ a ∧ 0 < b, mkI k (a % b))
  | .eql => some (True, mkB (decide (a = b)))
  | .neq => some (True, mkB (!decide (a = b)))
  | .lss => some (True, mkB (decide (a < b)))
  | .leq => some (True, mkB (decide (a ≤ b)))
  | .gtr => some (True, mkB (decide (b < a)))
  | .geq => some (True, mkB (decide (b ≤ a)))
  | _ => none
def cBinS (op : BinOp) (a b : ByteArray) : Option (Prop × Lf) :=
  match op with
  | .add => some (a.size + b.size ≤ 1000000000000000, mkS (a ++ b))
  | .eql => some (True, mkB (decide (a = b)))
  | .neq => some (True, mkB (!decide (a = b)))
  | _ => none
def cBin (op : BinOp) : Lf → Lf → Option (Prop × Lf)
  | .d (.int k) a, .d (.int k') b => bif decide (k = k') then cBinI op k a b else none
  | .d .str a, .d .str b => cBinS op a b
  | _, _ => none

theorem beq_dec {a b : Int} : (a == b) = decide (a = b) := by
  by_cases h : a = b <;> simp [h]
theorem str_dec {a b : ByteArray} : (a.toList == b.toList) = decide (a = b) := by
  by_cases h : a = b
  · rw [decide_eq_true h]; exact str_eq h
  · rw [decide_eq_false h]; exact str_ne h

theorem run_binOp {P : Program} {ρ : Operand → Value} {o : Oper} {w : World} (op : BinOp) (t u : TypeId) (x y : Operand) (ho : o.op = .binOp op t x y u) {v : Value} (hg : (eqGuard op t x y (ρ x) (ρ y)).run P w = .ok () w)
    (h : (binOp op t (ρ x) (ρ y)).run P w = .ok v w) : (execOp ρ o).run P w = .ok (.value v) w := by
  simp only [execOp, ho, Sem.run_bind, hg, h, Result.andThen_ok, Sem.run_pure]

theorem guard_int {P : Program} {w : World} (op : BinOp) (t : TypeId) (x y : Operand) (k k' : IntKind) (a b : Int) : (eqGuard op t x y (.int k a) (.int k' b)).run P w = .ok () w := by
  cases op <;> rfl
theorem guard_str {P : Program} {w : World} (op : BinOp) (t : TypeId) (x y : Operand) (a b : ByteArray) : (eqGuard op t x y (.string a) (.string b)).run P w = .ok () w := by
  cases op <;> rfl

theorem cBinI_sound {P : Program} {w : World} {G : Gh} {A : Nat → Prop} (op : BinOp) (t : TypeId) (k : IntKind) (a b : Int) {c : Lf} {sd : Prop} (e : cBinI op k a b = some (sd, c)) (hsd : sd)
    (a1 : kmin k ≤ a) (a2 : a ≤ kmax k) (b2 : b ≤ kmax k) : ∃ v, (binOp op t (.int k a) (.int k b)).run P w = .ok v w ∧ c.rel w G A v := by
  have hq : ∀ (hb0 : 0 < b) (ha0 : 0 ≤ a), kmin k ≤ a / b ∧ a / b ≤ kmax k ∧ a.tdiv b = a / b ∧ kmin k ≤ a % b ∧ a % b ≤ kmax k ∧ a.tmod b = a % b := by
    intro hb0 ha0
    have q1 : 0 ≤ a / b := Int.ediv_nonneg ha0 (by omega)
    have q2 : a / b ≤ a := Int.ediv_le_self b ha0
    have q3 : 0 ≤ a % b := Int.emod_nonneg a (by omega)
    have q4 : a % b < b := Int.emod_lt_of_pos a hb0
    have km : kmin k ≤ 0 := by cases k <;> decide
    exact ⟨by omega, by omega, Int.tdiv_eq_ediv_of_nonneg ha0, by omega, by omega, Int.tmod_eq_emod_of_nonneg ha0⟩
  unfold cBinI at e
  split at e
  all_goals cases e
  · exact ⟨.int k (a + b), by simp only [binOp, ne_eq, not_true_eq_false, if_false, Op.intArith, wrap_in k _ hsd.1 hsd.2]; rfl, mkI_rel hsd.1 hsd.2⟩
  · exact ⟨.int k (a - b), by simp only [binOp, ne_eq, not_true_eq_false, if_false, Op.intArith, wrap_in k _ hsd.1 hsd.2]; rfl, mkI_rel hsd.1 hsd.2⟩
  · exact ⟨.int k (a * b), by simp only [binOp, ne_eq, not_true_eq_false, if_false, Op.intArith, wrap_in k _ hsd.1 hsd.2]; rfl, mkI_rel hsd.1 hsd.2⟩
  · obtain ⟨q1, q2, q3, _⟩ := hq hsd.2 hsd.1
    have hb0 : ¬ b = 0 := by have := hsd.2; omega
    exact ⟨.int k (a / b), by simp only [binOp, ne_eq, not_true_eq_false, if_false, Op.intDiv, hb0, q3, wrap_in k _ q1 q2]; rfl, mkI_rel q1 q2⟩
  · obtain ⟨_, _, _, q1, q2, q3⟩ := hq hsd.2 hsd.1
    have hb0 : ¬ b = 0 := by have := hsd.2; omega
    exact ⟨.int k (a % b), by simp only [binOp, ne_eq, not_true_eq_false, if_false, Op.intDiv, hb0, q3]; rfl, mkI_rel q1 q2⟩
  · exact ⟨.bool (decide (a = b)), by simp only [binOp, ne_eq, not_true_eq_false, if_false, Op.intCmp, beq_dec]; rfl, mkB_rel⟩
  · exact ⟨.bool (!decide (a = b)), by simp only [binOp, ne_eq, not_true_eq_false, if_false, Op.intCmp, bne, beq_dec]; rfl, mkB_rel⟩
  · exact ⟨.bool (decide (a < b)), by simp only [binOp, ne_eq, not_true_eq_false, if_false, Op.intCmp]; rfl, mkB_rel⟩
  · exact ⟨.bool (decide (a ≤ b)), by simp only [binOp, ne_eq, not_true_eq_false, if_false, Op.intCmp]; rfl, mkB_rel⟩
  · exact ⟨.bool (decide (b < a)), by simp only [binOp, ne_eq, not_true_eq_false, if_false, Op.intCmp]; rfl, mkB_rel⟩
  · exact ⟨.bool (decide (b ≤ a)), by simp only [binOp, ne_eq, not_true_eq_false, if_false, Op.intCmp]; rfl, mkB_rel⟩
theorem cBinS_sound {P : Program} {w : World} {G : Gh} {A : Nat → Prop} (op : BinOp) (t : TypeId) (a b : ByteArray) {c : Lf} {sd : Prop} (e : cBinS op a b = some (sd, c)) (hsd : sd) :
    ∃ v, (binOp op t (.string a) (.string b)).run P w = .ok v w ∧ c.rel w G A v := by
  unfold cBinS at e
  split at e
  all_goals cases e
  · have hle : ¬ ((a.size + b.size : Nat) : Int) > IntKind.i64.max := by rw [← kmax_eq]; simp only [kmax]; omega
    refine ⟨.string (a ++ b), by simp only [binOp, Op.stringOp, hle, if_false]; rfl, rfl, ?_⟩
    rw [ByteArray.size_append, maxLen_eq]; omega
  · exact ⟨.bool (decide (a = b)), by simp only [binOp, Op.stringOp, str_dec]; rfl, mkB_rel⟩
  · exact ⟨.bool (!decide (a = b)), by simp only [binOp, Op.stringOp, str_dec]; rfl, mkB_rel⟩

theorem cBin_sound {P : Program} {F : Fr} {hp : Nat → Option Ob} {G : Gh} {ρ : Operand → Value} {o : Oper} {w : World} (op : BinOp) (t u : TypeId) (x y : Operand) (ho : o.op = .binOp op t x y u)
    {a b c : Lf} {sd : Prop} (e : cBin op a b = some (sd, c)) (hsd : sd) (h : RepH F hp G w) (ha : a.rel w G (Okay F hp G) (ρ x)) (hb : b.rel w G (Okay F hp G) (ρ y)) :
    Runs P ρ o w (Aft F hp G w hp (.v false [c]) []) := by
  unfold cBin at e
  split at e
  · rename_i k a k' b
    obtain ⟨ea, a1, a2⟩ := ha
    obtain ⟨eb, b1, b2⟩ := hb
    have ea : ρ x = .int k a := by simpa using ea
    have eb : ρ y = .int k' b := by simpa using eb
    cases hk : decide (k = k')
    · rw [hk] at e; cases e
    · rw [hk] at e
      obtain rfl := of_decide_eq_true hk
      obtain ⟨v, v1, v2⟩ := cBinI_sound (P := P) (w := w) (G := G) (A := Okay F hp G) op t k a b e hsd (by rw [kmin_eq]; exact a1) (by rw [kmax_eq]; exact a2) (by rw [kmax_eq]; exact b2)
      exact Runs.of_ok (run_binOp op t u x y ho (by rw [ea, eb]; exact guard_int op t x y k k a b) (by rw [ea, eb]; exact v1)) (Aft.still h (AV.rel_of v2))
  · rename_i a b
    obtain ⟨ea, a1⟩ := ha
    obtain ⟨eb, b1⟩ := hb
    have ea : ρ x = .string a := by simpa using ea
    have eb : ρ y = .string b := by simpa using eb
    obtain ⟨v, v1, v2⟩ := cBinS_sound (P := P) (w := w) (G := G) (A := Okay F hp G) op t a b e hsd
    exact Runs.of_ok (run_binOp op t u x y ho (by rw [ea, eb]; exact guard_str op t x y a b) (by rw [ea, eb]; exact v1)) (Aft.still h (AV.rel_of v2))
  · cases e

def cBool (k : TK) (op : BinOp) : Lf → Lf → Option Lf
  | .d .bool a, .d .bool b => match k, op with
    | .bool, .eql => some (mkB (decide (a = b)))
    | .bool, .neq => some (mkB (!decide (a = b)))
    | _, _ => none
  | _, _ => none
theorem bool_dec (a b : Bool) : (a == b) = decide (a = b) := by cases a <;> cases b <;> rfl
theorem run_eqB {P : Program} {w : World} {t : TypeId} (h : P.underlying t = some .bool) (a b : Bool) : (Op.equal t (.bool a) (.bool b)).run P w = .ok (decide (a = b)) w := by
  rw [Op.equal, show Op.maxDepth = 9999 + 1 from rfl, Op.equalIn]
  simp only [Sem.run_bind, run_underlying h, Result.andThen_ok, Sem.run_pure, bool_dec]
theorem cBool_sound {P : Program} {F : Fr} {hp : Nat → Option Ob} {G : Gh} {ρ : Operand → Value} {o : Oper} {w : World} (op : BinOp) (t u : TypeId) (x y : Operand) (ho : o.op = .binOp op t x y u) {i : TI} (hi : i.ok P t)
    {a b c : Lf} (e : cBool i.kind op a b = some c) (h : RepH F hp G w) (ha : a.rel w G (Okay F hp G) (ρ x)) (hb : b.rel w G (Okay F hp G) (ρ y)) :
    Runs P ρ o w (Aft F hp G w hp (.v false [c]) []) := by
  unfold cBool at e
  split at e
  · rename_i a b
    have ea : ρ x = .bool a := by simpa using (show [ρ x] = [.bool a] from ha)
    have eb : ρ y = .bool b := by simpa using (show [ρ y] = [.bool b] from hb)
    split at e
    · rename_i hk
      cases e
      obtain ⟨d, hu, hd⟩ := hi.und
      rw [hk] at hd
      have hu : P.underlying t = some .bool := hd.1 ▸ hu
      refine Runs.of_ok (run_binOp .eql t u x y ho (by rw [ea, eb]; rfl) (v := .bool (decide (a = b))) ?_) (Aft.still h (AV.rel_of mkB_rel))
      rw [ea, eb]
      show (do pure (.bool (← Op.equal t (.bool a) (.bool b))) : Sem Value).run P w = _
      simp only [Sem.run_bind, run_eqB hu, Result.andThen_ok, Sem.run_pure]
    · rename_i hk
      cases e
      obtain ⟨d, hu, hd⟩ := hi.und
      rw [hk] at hd
      have hu : P.underlying t = some .bool := hd.1 ▸ hu
      refine Runs.of_ok (run_binOp .neq t u x y ho (by rw [ea, eb]; rfl) (v := .bool (!decide (a = b))) ?_) (Aft.still h (AV.rel_of mkB_rel))
      rw [ea, eb]
      show (do pure (.bool (!(← Op.equal t (.bool a) (.bool b)))) : Sem Value).run P w = _
      simp only [Sem.run_bind, run_eqB hu, Result.andThen_ok, Sem.run_pure]
    · cases e
  · cases e

def cUn : UnOp → Lf → Option (Prop × Lf)
  | .not, .d .bool b => some (True, mkB (!b))
  | .neg, .d (.int k) n => some (kmin k ≤ -(n : Int) ∧ -(n : Int) ≤ kmax k, mkI k (-(n : Int)))
  | _, _ => none
theorem cUn_sound {P : Program} {F : Fr} {hp : Nat → Option Ob} {G : Gh} {ρ : Operand → Value} {o : Oper} {w : World} (op : UnOp) (t : TypeId) (x : Operand) (ho : o.op = .unOp op t x)
    {a c : Lf} {sd : Prop} (e : cUn op a = some (sd, c)) (hsd : sd) (h : RepH F hp G w) (ha : a.rel w G (Okay F hp G) (ρ x)) : Runs P ρ o w (Aft F hp G w hp (.v false [c]) []) := by
  have fin : ∀ v, (Op.unary op (ρ x)).run P w = .ok v w → c.rel w G (Okay F hp G) v → Runs P ρ o w (Aft F hp G w hp (.v false [c]) []) := by
    intro v h1 h2
    exact Runs.of_ok (v := v) (by simp only [execOp, ho, Sem.run_bind, h1, Result.andThen_ok, Sem.run_pure]) (Aft.still h (AV.rel_of h2))
  unfold cUn at e
  split at e
  · rename_i b
    cases e
    have ea : ρ x = .bool b := by simpa using (show [ρ x] = [.bool b] from ha)
    exact fin (.bool (!b)) (by rw [ea]; rfl) mkB_rel
  · rename_i k n
    cases e
    have ea : ρ x = .int k n := by simpa using ha.1
    refine fin (.int k (-n)) ?_ (mkI_rel hsd.1 hsd.2)
    rw [ea]
    simp only [Op.unary, Op.intArith, Int.zero_sub, wrap_in k _ hsd.1 hsd.2]
    rfl
  · cases e

def lfInt : Lf → Option Int
  | .d (.int _) n => some n
  | _ => none
theorem lfInt_rel {w : World} {G : Gh} {A : Nat → Prop} {x : Lf} {n : Int} {v : Value} (e : lfInt x = some n) (h : x.rel w G A v) : ∃ k, v = .int k n := by
  unfold lfInt at e
  split at e
  · rename_i k m
    cases e
    exact ⟨k, by simpa using h.1⟩
  · cases e

/-! ### indices, slices -/
def cIndexAddr (cl : Bool) (i : TI) (esize : Nat) (hp : Nat → Option Ob) (ix : Lf) (x : Lf) : Option (Prop × Lf) :=
  match lfInt ix with
  | none => none
  | some n => match x with
    | .d (.slice e) l => some (0 ≤ n ∧ n < l.length, .dp e (l.getD n.toNat e.dflt))
    | .o b => match hp b with
      | some (.row _ t l) => some (0 ≤ n ∧ n < l.length, .pe b n.toNat t.size 0)
      | some (.arr _ m _) => some (0 ≤ n ∧ n < m, .pe b n.toNat esize 0)
      | some (.rox _ t l1 _ l2) => match cl with
        | true => some (0 ≤ n ∧ n < l1.length + 1 + l2.length, .pe b n.toNat t.size 0)
        | false => some (n = l1.length, .px b l1.length t.size 0)
      | _ => none
    | .p b off => match i.kind with
      | .array m _ => some (0 ≤ n ∧ n < m, .p b (off + n.toNat * esize))
      | _ => none
    | .pe b j s k => match i.kind with
      | .array m _ => some (0 ≤ n ∧ n < m, .pe b j s (k + n.toNat * esize))
      | _ => none
    | .px b j s k => match i.kind with
      | .array m _ => some (0 ≤ n ∧ n < m, .px b j s (k + n.toNat * esize))
      | _ => none
    | .dp (.st t) x => match i.kind with
      | .array m _ => match t.comp x (n.toNat * esize) with
        | some ⟨u, y⟩ => some (0 ≤ n ∧ n < m, .dp u y)
        | none => none
      | _ => none
    | _ => none

theorem rowOwn_slice {w : World} {E : TypeId} {size n : Nat} {v : Value} {vs : List Value} (h : w.ownsRow 0 E size v n vs) : (v = .slice none 0 0 ∧ n = 0) ∨ ∃ g cap, v = .slice (some ⟨g, 0, none⟩) n cap := by
  rcases h.2 with q | ⟨g, cap, cur, rfl, _⟩
  · exact .inl q
  · exact .inr ⟨g, cap, rfl⟩

theorem run_indexSlice {P : Program} {ρ : Operand → Value} {o : Oper} {w : World} (T E : TypeId) (x y : Operand) (ho : o.op = .indexAddr T x y) {i j : TI} (hi : i.ok P T) (hk : i.kind = .slice E) (hj : j.ok P E)
    {b off n cap : Nat} {k : IntKind} {m : Int} (hx : ρ x = .slice (some ⟨b, off, none⟩) n cap) (hy : ρ y = .int k m) (h0 : 0 ≤ m) (h1 : m < n) :
    (execOp ρ o).run P w = .ok (.value (.pointer (some ⟨b, off + m.toNat * j.size, none⟩))) w := by
  simp only [execOp, ho, Instr.indexAt, hx, hy, asIntOf, Sem.run_bind, Sem.run_pure, Result.andThen_ok, run_underlying (hi.slice hk), h0, h1, and_self, if_true, run_size hj, addr_add0]

theorem run_indexArr {P : Program} {ρ : Operand → Value} {o : Oper} {w : World} (T E : TypeId) (x y : Operand) (ho : o.op = .indexAddr T x y) {i j : TI} {n : Nat} (hi : i.ok P T) (hk : i.kind = .array n E) (hj : j.ok P E)
    {b off : Nat} {k : IntKind} {m : Int} (hx : ρ x = .pointer (some ⟨b, off, none⟩)) (hy : ρ y = .int k m) (h0 : 0 ≤ m) (h1 : m < n) :
    (execOp ρ o).run P w = .ok (.value (.pointer (some ⟨b, off + m.toNat * j.size, none⟩))) w := by
  obtain ⟨d, hd, hkk⟩ := hi.und
  rw [hk] at hkk
  rw [hkk.1] at hd
  simp only [execOp, ho, Instr.indexAt, hx, hy, asIntOf, Sem.run_bind, Sem.run_pure, Result.andThen_ok, run_underlying hd, Instr.sureAddr, h0, h1, and_self, if_true, run_size hj, addr_add0]

theorem cIndexAddr_sound {P : Program} {F : Fr} {hp : Nat → Option Ob} {G : Gh} {ρ : Operand → Value} {o : Oper} {w : World} (T E : TypeId) (x y : Operand) (ho : o.op = .indexAddr T x y) {i j : TI} (hi : i.ok P T) (hj : j.ok P E)
    (hk : i.kind = .slice E ∨ ∃ n, i.kind = .array n E) {cl : Bool} {a ix c : Lf} {sd : Prop} (e : cIndexAddr cl i j.size hp ix a = some (sd, c)) (hsd : sd)
    (hty : (∀ t l, a = .d (.slice t) l → i.kind = .slice E ∧ t.size = j.size) ∧ (∀ b, a = .o b → i.kind = .slice E ∧ (∀ E' t l, hp b = some (.row E' t l) → t.size = j.size) ∧ ∀ E' t l1 cs l2, hp b = some (.rox E' t l1 cs l2) → t.size = j.size))
    (h : RepH F hp G w) (ha : a.rel w G (Okay F hp G) (ρ x)) (hix : ix.rel w G (Okay F hp G) (ρ y)) :
    Runs P ρ o w (Aft F hp G w hp (.v false [c]) []) := by
  unfold cIndexAddr at e
  split at e
  · cases e
  · rename_i n hn0
    obtain ⟨k, hy⟩ := lfInt_rel hn0 hix
    split at e
    · rename_i t l
      obtain ⟨hks, hts⟩ := hty.1 t l rfl
      cases e
      obtain ⟨ao, cap, h0, h1, h2, h3, h4⟩ := ha
      have hv : ρ x = .slice ao l.length cap := by simpa using h0
      have hn : n.toNat < l.length := by omega
      obtain ⟨b, off, es, rfl, k1, k2, k3, k4⟩ := h4 n.toNat hn
      refine Runs.of_ok (run_indexSlice T E x y ho hi hks hj hv hy hsd.1 hsd.2) (Aft.still h (AV.rel_of ⟨b, off + n.toNat * j.size, es, rfl, k1, k2, ?_, fun q hq => ?_⟩))
      · rw [List.getD_eq_getElem?_getD, List.getElem?_eq_getElem hn]; exact k3
      · rw [← hts, Nat.add_assoc]; exact k4 q hq
    · rename_i b
      obtain ⟨hks, hts⟩ := hty.2 b rfl
      obtain ⟨hv, _⟩ := ha
      split at e
      · rename_i E' t l hb
        cases e
        obtain ⟨vs, k1, k2, k3⟩ := h.sat b _ hb
        rcases rowOwn_slice k2 with ⟨_, q⟩ | ⟨g, cap, q⟩
        · have := hsd.2; omega
        · rw [q] at hv
          have := hts.1 E' t l hb
          refine Runs.of_ok (run_indexSlice T E x y ho hi hks hj hv hy hsd.1 hsd.2) (Aft.still h (AV.rel_of ⟨g, by rw [q]; rfl, ?_⟩))
          rw [this, Nat.zero_add]; rfl
      · rename_i E' m cs hb
        cases e
        obtain ⟨g, vs, k1, k2, k3, k4, k5⟩ := h.sat b _ hb
        rw [k1] at hv
        refine Runs.of_ok (run_indexSlice T E x y ho hi hks hj hv hy hsd.1 hsd.2) (Aft.still h (AV.rel_of ⟨g, by rw [k1]; rfl, ?_⟩))
        rw [Nat.zero_add]; rfl
      · rename_i E' t l1 cs l2 hb
        have hsz := hts.2 E' t l1 cs l2 hb
        obtain ⟨v1, c1, v2, k1, k2, k3, k4, k5, k6⟩ := h.sat b _ hb
        rcases rowOwn_slice k5 with ⟨_, q⟩ | ⟨g, cap, q⟩
        · omega
        · rw [q] at hv
          cases cl with
          | true =>
            cases e
            refine Runs.of_ok (run_indexSlice T E x y ho hi hks hj hv hy hsd.1 (by omega)) (Aft.still h (AV.rel_of ⟨g, by rw [q]; rfl, ?_⟩))
            rw [hsz, Nat.zero_add]; rfl
          | false =>
            cases e
            have hsd : n = l1.length := hsd
            refine Runs.of_ok (run_indexSlice T E x y ho hi hks hj hv hy (by omega) (by omega)) (Aft.still h (AV.rel_of ⟨g, by rw [q]; rfl, ?_⟩))
            rw [hsz, Nat.zero_add, hsd]; rfl
      · cases e
    · rename_i b off
      split at e
      · rename_i m E' hkind
        cases e
        have hE : E' = E := by
          rcases hk with q | ⟨n', q⟩
          · rw [q] at hkind; cases hkind
          · rw [q] at hkind; cases hkind; rfl
        subst hE
        obtain ⟨g, k1, hv⟩ := ha
        exact Runs.of_ok (run_indexArr T E' x y ho hi hkind hj hv hy hsd.1 hsd.2) (Aft.still h (AV.rel_of ⟨g, k1, rfl⟩))
      · cases e
    · rename_i b q s kk
      split at e
      · rename_i m E' hkind
        cases e
        have hE : E' = E := by
          rcases hk with q | ⟨n', q⟩
          · rw [q] at hkind; cases hkind
          · rw [q] at hkind; cases hkind; rfl
        subst hE
        obtain ⟨g, k1, hv⟩ := ha
        exact Runs.of_ok (run_indexArr T E' x y ho hi hkind hj hv hy hsd.1 hsd.2) (Aft.still h (AV.rel_of ⟨g, k1, by rw [Nat.add_assoc]⟩))
      · cases e
    · rename_i b q s kk
      split at e
      · rename_i m E' hkind
        cases e
        have hE : E' = E := by
          rcases hk with q | ⟨n', q⟩
          · rw [q] at hkind; cases hkind
          · rw [q] at hkind; cases hkind; rfl
        subst hE
        obtain ⟨g, k1, hv⟩ := ha
        exact Runs.of_ok (run_indexArr T E' x y ho hi hkind hj hv hy hsd.1 hsd.2) (Aft.still h (AV.rel_of ⟨g, k1, by rw [Nat.add_assoc]⟩))
      · cases e
    · rename_i t' x'
      split at e
      · rename_i m E' hkind
        have hE : E' = E := by
          rcases hk with q | ⟨n', q⟩
          · rw [q] at hkind; cases hkind
          · rw [q] at hkind; cases hkind; rfl
        subst hE
        split at e
        · rename_i u y' hc
          cases e
          obtain ⟨g, off, cs, hv, k1, k2, k3, k4⟩ := ha
          obtain ⟨c1, c2, c3, rfl, q1, q2⟩ := comp_rd t' x' cs _ u y' k3 hc
          refine Runs.of_ok (run_indexArr T E' x y ho hi hkind hj hv hy hsd.1 hsd.2) (Aft.still h (AV.rel_of ⟨g, off + n.toNat * j.size, c2, rfl, k1, k2, q2, fun q hq => ?_⟩))
          have := k4 (n.toNat * j.size + q) (by simp; omega)
          rw [Nat.add_assoc, this]
          congr 1
          rw [List.getElem_append_right (by omega), List.getElem_append_left (by omega)]
          congr 1
          omega
        · cases e
      · cases e
    · cases e

/-! part SxI -/
/-- a bound of a slice expression: none is d -/
def bnd (d : Int) : Option Lf → Option Int
  | none => some d
  | some x => lfInt x

def optRel (w : World) (G : Gh) (A : Nat → Prop) : Option Lf → Option Value → Prop
  | none, v => v = none
  | some x, v => ∃ u, v = some u ∧ x.rel w G A u

def cSlice (lo hi : Option Lf) : Lf → Option (Prop × Lf)
  | .d (.slice e) l => match bnd 0 lo, bnd l.length hi with
    | some a, some b => some (0 ≤ a ∧ a ≤ b ∧ b ≤ l.length, .d (.slice e) ((l.take b.toNat).drop a.toNat))
    | _, _ => none
  | .d .str s => match bnd 0 lo, bnd s.size hi with
    | some a, some b => some (0 ≤ a ∧ a ≤ b ∧ b ≤ s.size, mkS (s.extract a.toNat b.toNat))
    | _, _ => none
  | _ => none

theorem run_bounds {P : Program} {w : World} {G : Gh} {A : Nat → Prop} {isS : Bool} {len cap : Nat} {lo hi : Option Lf} {vlo vhi : Option Value} (h1 : optRel w G A lo vlo) (h2 : optRel w G A hi vhi) {a b : Int}
    (e1 : bnd 0 lo = some a) (e2 : bnd len hi = some b) (ha : 0 ≤ a) (hab : a ≤ b) (hb : b ≤ len) (hc : len ≤ cap) : (Instr.sliceBounds isS len cap vlo vhi none).run P w = .ok (a.toNat, b.toNat, cap) w := by
  have q1 : 0 ≤ b ∧ b ≤ cap := ⟨by omega, by omega⟩
  have q2 : 0 ≤ a ∧ a ≤ b.toNat := ⟨ha, by omega⟩
  cases hi with
  | none =>
    obtain rfl := (show vhi = none from h2)
    cases e2
    have q3 : 0 ≤ a ∧ a ≤ len := ⟨ha, hab⟩
    cases lo with
    | none =>
      obtain rfl := (show vlo = none from h1)
      cases e1
      simp only [Instr.sliceBounds, Sem.run_bind, Sem.run_pure, Result.andThen_ok, Int.toNat_natCast]
      rfl
    | some x =>
      obtain ⟨u, rfl, hx⟩ := h1
      obtain ⟨k, rfl⟩ := lfInt_rel e1 hx
      simp only [Instr.sliceBounds, Instr.sliceBound, asIntOf, Sem.run_bind, Sem.run_pure, Result.andThen_ok, q3, and_self, if_true, Int.toNat_natCast]
  | some y =>
    obtain ⟨u, rfl, hy⟩ := h2
    obtain ⟨k, rfl⟩ := lfInt_rel e2 hy
    cases lo with
    | none =>
      obtain rfl := (show vlo = none from h1)
      cases e1
      simp only [Instr.sliceBounds, Instr.sliceBound, asIntOf, Sem.run_bind, Sem.run_pure, Result.andThen_ok, q1, and_self, if_true]
      rfl
    | some x =>
      obtain ⟨u, rfl, hx⟩ := h1
      obtain ⟨k, rfl⟩ := lfInt_rel e1 hx
      simp only [Instr.sliceBounds, Instr.sliceBound, asIntOf, Sem.run_bind, Sem.run_pure, Result.andThen_ok, q1, q2, and_self, if_true]

theorem rd_part {w : World} {A : Nat → Prop} {e : Ty} {l : List e.den} {ao : Option Addr} {cap : Nat} (h : (Ty.slice e).rd w A l [.slice ao l.length cap]) {a b : Nat} (hab : a ≤ b) (hb : b ≤ l.length) :
    (Ty.slice e).rd w A ((l.take b).drop a) [.slice (if cap = a then ao else ao.map (·.add (a * e.size))) (b - a) (cap - a)] := by
  obtain ⟨ao', cap', h0, h1, h2, h3, h4⟩ := h
  cases h0
  have hlen : ((l.take b).drop a).length = b - a := by rw [List.length_drop, List.length_take]; omega
  refine ⟨_, _, by rw [hlen], by omega, by omega, ?_, ?_⟩
  · intro hn
    split at hn
    · have := h3 hn; omega
    · cases ao with
      | none => have := h3 rfl; omega
      | some ad => cases hn
  · intro i hi
    rw [hlen] at hi
    have hca : ¬ cap = a := by omega
    obtain ⟨g, off, es, k0, k1, k2, k3, k4⟩ := h4 (a + i) (by omega)
    cases k0
    refine ⟨g, off + a * e.size, es, ?_, k1, k2, ?_, fun j hj => ?_⟩
    · rw [if_neg hca, Option.map_some, addr_add0]
    · rw [List.getElem_drop, List.getElem_take]; exact k3
    · rw [← k4 j hj]
      congr 2
      rw [Nat.add_mul]
      omega

theorem cSlice_sound {P : Program} {F : Fr} {hp : Nat → Option Ob} {G : Gh} {ρ : Operand → Value} {o : Oper} {w : World} (T : TypeId) (x : Operand) (lo hi : Option Operand) (ho : o.op = .slice T x lo hi none) {i : TI} (hi' : i.ok P T)
    {llo lhi : Option Lf} (hlo : optRel w G (Okay F hp G) llo (lo.map ρ)) (hhi : optRel w G (Okay F hp G) lhi (hi.map ρ))
    {a c : Lf} {sd : Prop} (e : cSlice llo lhi a = some (sd, c)) (hsd : sd) (hty : (∀ t l, a = .d (.slice t) l → ∃ E j, i.kind = .slice E ∧ TI.ok P E j ∧ j.size = t.size) ∧ (∀ s, a = .d .str s → i.kind = .str))
    (h : RepH F hp G w) (ha : a.rel w G (Okay F hp G) (ρ x)) : Runs P ρ o w (Aft F hp G w hp (.v false [c]) []) := by
  unfold cSlice at e
  split at e
  · rename_i t l
    obtain ⟨E, j, q1, q2, q3⟩ := hty.1 t l rfl
    split at e
    · rename_i a b ea eb
      cases e
      have hu := hi'.slice q1
      have ha0 := ha
      obtain ⟨ao, cap, h0, h1, h2, h3, h4⟩ := ha
      have hv : ρ x = .slice ao l.length cap := by simpa using h0
      rw [hv] at ha0
      have hbd := run_bounds (P := P) (isS := true) (cap := cap) hlo hhi ea eb hsd.1 hsd.2.1 hsd.2.2 h1
      refine Runs.of_ok (v := .slice (if cap = a.toNat then ao else ao.map (·.add (a.toNat * t.size))) (b.toNat - a.toNat) (cap - a.toNat)) ?_ (Aft.still h (AV.rel_of (rd_part ha0 (by omega) (by omega))))
      simp only [execOp, ho, Instr.sliceAt, Sem.run_bind, run_underlying hu, Result.andThen_ok, Instr.slice, hv, Option.map_none, hbd, run_size q2, q3, Sem.run_pure]
    · cases e
  · rename_i s
    have q1 := hty.2 s rfl
    split at e
    · rename_i a b ea eb
      cases e
      obtain ⟨d, hd, hkk⟩ := hi'.und
      rw [q1] at hkk
      rw [hkk.1] at hd
      have hv : ρ x = .string s := by simpa using ha.1
      have hbd := run_bounds (P := P) (isS := false) (cap := s.size) hlo hhi ea eb hsd.1 hsd.2.1 hsd.2.2 (Nat.le_refl _)
      refine Runs.of_ok (v := .string (s.extract a.toNat b.toNat)) ?_ (Aft.still h (AV.rel_of ⟨rfl, ?_⟩))
      · simp only [execOp, ho, Instr.sliceAt, Sem.run_bind, run_underlying hd, Result.andThen_ok, Instr.slice, hv, Option.map_none, Option.isSome_none, Bool.false_eq_true, if_false, hbd, Sem.run_pure]
      · rw [ByteArray.size_extract]
        have := ha.2
        omega
    · cases e
  · cases e

/-- a part of a row that is written -/
def cView (hp : Nat → Option Ob) (lo hi : Option Lf) : Lf → Option (Prop × Lf)
  | .o b => match hp b with
    | some (.row _ t l) => match bnd 0 lo, bnd l.length hi with
      | some a, some c => some (0 ≤ a ∧ a ≤ c ∧ c ≤ l.length, .vw b a.toNat (c.toNat - a.toNat) t.size)
      | _, _ => none
    | _ => none
  | _ => none
theorem cView_sound {P : Program} {F : Fr} {hp : Nat → Option Ob} {G : Gh} {ρ : Operand → Value} {o : Oper} {w : World} (T : TypeId) (x : Operand) (lo hi : Option Operand) (ho : o.op = .slice T x lo hi none) {i j : TI} {E : TypeId} (hi' : i.ok P T) (q1 : i.kind = .slice E) (q2 : j.ok P E)
    {llo lhi : Option Lf} (hlo : optRel w G (Okay F hp G) llo (lo.map ρ)) (hhi : optRel w G (Okay F hp G) lhi (hi.map ρ))
    {b : Nat} {c : Lf} {sd : Prop} (e : cView hp llo lhi (.o b) = some (sd, c)) (hsd : sd) (hty : ∀ T' t l, hp b = some (.row T' t l) → j.size = t.size)
    (h : RepH F hp G w) (ha : (Lf.o b).rel w G (Okay F hp G) (ρ x)) : Runs P ρ o w (Aft F hp G w hp (.v false [c]) []) := by
  unfold cView at e
  dsimp only at e
  split at e
  · rename_i T' t l hb
    have q3 := hty _ _ _ hb
    split at e
    · rename_i a c' ea eb
      cases e
      have hu := hi'.slice q1
      obtain ⟨vs, k1, k2, k3⟩ := h.sat b _ hb
      obtain ⟨ao, cap, h0, h1, h2, h3, h4⟩ := sl_of_owns k2
      have hv : ρ x = .slice ao l.length cap := ha.1.trans h0
      have hbd := run_bounds (P := P) (isS := true) (cap := cap) hlo hhi ea eb hsd.1 hsd.2.1 hsd.2.2 h1
      refine Runs.of_ok (v := .slice (if cap = a.toNat then ao else ao.map (·.add (a.toNat * t.size))) (c'.toNat - a.toNat) (cap - a.toNat)) ?_ (Aft.still h (AV.rel_of ?_))
      · simp only [execOp, ho, Instr.sliceAt, Sem.run_bind, run_underlying hu, Result.andThen_ok, Instr.slice, hv, Option.map_none, hbd, run_size q2, q3, Sem.run_pure]
      · refine ⟨ao, l.length, cap, _, h0, by omega, rfl, fun e0 => ?_, fun hn => ?_, fun hn => ?_⟩
        · rw [e0]
          split
          · rfl
          · cases ao with
            | none => rfl
            | some ad => simp [Addr.add]
        · have hne : ¬ cap = a.toNat := by omega
          rw [if_neg hne]
          rcases k2.2 with ⟨r1, r2⟩ | ⟨g, cp, cur, r1, _⟩
          · omega
          · rw [h0] at r1
            cases r1
            exact ⟨g, rfl, by rw [Option.map_some, addr_add0, Nat.zero_add]⟩
        · split at hn
          · exact hn
          · cases ao with
            | none => rfl
            | some ad => cases hn
    · cases e
  · cases e

/-! ### conversions -/
theorem conv_sb_sound {P : Program} {F : Fr} {hp : Nat → Option Ob} {G : Gh} {ρ : Operand → Value} {o : Oper} {w : World} (src dst E : TypeId) (x : Operand) (ho : o.op = .convert src dst x) {i j k : TI} (hi : i.ok P src) (hj : j.ok P dst) (hk : k.ok P E)
    (h1 : i.kind = .str) (h2 : j.kind = .slice E) (h3 : k.kind = .int .u8) {s : ByteArray} (h : RepH F hp G w) (ha : (Lf.d .str s).rel w G (Okay F hp G) (ρ x)) :
    Runs P ρ o w (Aft F hp G w hp (.v false [.d (.slice (.int .u8)) (s.data.toList.map fun c => (c.toNat : Int))]) []) := by
  have hv : ρ x = .string s := by simpa using ha.1
  have hm := ha.2
  have u1 : P.underlying src = some .string := by
    obtain ⟨d, hd, hkk⟩ := hi.und
    rw [h1] at hkk
    rw [hd, hkk.1]
  have u3 : P.underlying E = some (.int .u8) := by
    obtain ⟨d, hd, hkk⟩ := hk.und
    rw [h3] at hkk
    rw [hd, hkk.1]
  have hrun := Lib.run_convert_string_bytes (P := P) w src dst E s u1 (hj.slice h2) u3
  have hold : ∀ k, k < w.heap.size → (Lib.bytesWorld w E s).heap[k]? = w.heap[k]? := fun k hk => Lib.bytesWorld_at_old w E s k hk
  have hsz : (Lib.bytesWorld w E s).heap.size = w.heap.size + 1 := Lib.bytesWorld_size w E s
  obtain ⟨r1, r2⟩ := h.after (w' := Lib.bytesWorld w E s) (by
    refine ⟨?_, ?_, ?_, ?_, fun k hk _ => hold k hk⟩
    · simp [Lib.bytesWorld, World.freeze, World.alloc, World.drew, -World.alloc_eq, -World.drew_eq]
    · simp [Lib.bytesWorld, World.freeze, World.alloc, World.drew, -World.alloc_eq, -World.drew_eq]
    · simp [Lib.bytesWorld, World.freeze, World.alloc, World.drew, -World.alloc_eq, -World.drew_eq]
    · rw [hsz]; omega)
  refine Runs.of_ok (v := .slice (some ⟨w.heap.size, 0, none⟩) s.size (grownCap w s.size 0 E)) (w' := Lib.bytesWorld w E s) ?_ ⟨G, r2, r1, AV.rel_of (l := .d (.slice (.int .u8)) (s.data.toList.map fun c => (c.toNat : Int))) ?_⟩
  · simp only [execOp, ho, Sem.run_bind, hv, hrun, Result.andThen_ok, Sem.run_pure]
  · have hlen : (s.data.toList.map fun c => (c.toNat : Int)).length = s.size := by rw [List.length_map]; rfl
    refine ⟨some ⟨w.heap.size, 0, none⟩, grownCap w s.size 0 E, by rw [hlen], by rw [hlen]; exact grownCap_ge w s.size 0 E, grownCap_le_maxLen w s.size 0 E hm, fun e => (by cases e), fun q hq => ?_⟩
    rw [hlen] at hq
    have hq' : q < s.data.toList.length := hq
    have hin := (s.data.toList[q]).toNat_lt
    refine ⟨_, _, [.int .u8 (((s.data.toList.map fun c => (c.toNat : Int))[q]'(by rw [hlen]; exact hq) : Int))], rfl, ⟨.inr h.fr.size, fun hf => ?_⟩, by rw [hsz]; omega, ⟨rfl, ?_⟩, fun j hj => ?_⟩
    · have := h.lt hf
      exact absurd this (Nat.lt_irrefl _)
    · simp only [List.getElem_map]
      constructor
      · show (0 : Int) ≤ _
        omega
      · show _ ≤ (255 : Int)
        omega
    · have hj0 : j = 0 := by simpa using hj
      subst hj0
      show (Lib.bytesWorld w E s).cell? ⟨w.heap.size, 0 + (q * 1 + 0), none⟩ = _
      rw [Nat.zero_add, Nat.mul_one, Nat.add_zero, Lib.bytesWorld_cell w E s q hq]
      simp only [List.getElem_map, List.getElem_cons_zero]
      congr 2
      have hd : s.data.toList.getD q 0 = s.data.toList[q] := by rw [List.getD_eq_getElem?_getD, List.getElem?_eq_getElem hq']; rfl
      first | rw [hd] | (simp [List.getD, hq']; done) | rfl

/-! ### len -/
def cLen (i : TI) (hp : Nat → Option Ob) (x : AV) : Option Int :=
  match i.kind with
  | .array n _ => some n
  | .slice _ => match x.one with
    | some (.d (.slice _) l) => some l.length
    | some .nl => some 0
    | some (.o b) => match hp b with
      | some (.row _ _ l) => some l.length
      | some (.arr _ n _) => some n
      | some (.rox _ _ l1 _ l2) => some ((l1.length + 1 + l2.length : Nat) : Int)
      | _ => none
    | _ => none
  | .str => match x.one with
    | some (.d .str s) => some s.size
    | _ => none
  | _ => none

theorem cLen_sound {P : Program} {F : Fr} {hp : Nat → Option Ob} {G : Gh} {ρ : Operand → Value} {o : Oper} {w : World} (T : TypeId) (x : Operand) (ho : o.op = .call { callee := .builtin .len, args := #[x], argTypes := #[T] }) {i : TI} (hi : i.ok P T)
    {a : AV} {n : Int} (e : cLen i hp a = some n) (hsz : n ≤ 9223372036854775807) (h : RepH F hp G w) (ha : a.rel w G (Okay F hp G) (ρ x)) : Runs P ρ o w (Aft F hp G w hp (.v false [mkI .i64 n]) []) := by
  have fin : 0 ≤ n → (Builtin.len_ #[T] o.type #[ρ x]).run P w = .ok (.int .i64 n) w → Runs P ρ o w (Aft F hp G w hp (.v false [mkI .i64 n]) []) := by
    intro h0 h1
    refine Runs.of_ok (v := .int .i64 n) ?_ (Aft.still h (AV.rel_of (mkI_rel (by simp only [kmin]; omega) (by simp only [kmax]; omega))))
    simp only [execOp, ho, resolve, invoke, builtin, Sem.run_bind, Sem.run_pure, Result.andThen_ok, List.map_toArray, List.map_cons, List.map_nil, h1]
  obtain ⟨d, hd, hkk⟩ := hi.und
  unfold cLen at e
  split at e
  · rename_i m E hk
    cases e
    rw [hk] at hkk
    rw [hkk.1] at hd
    refine fin (by omega) ?_
    simp only [Builtin.len_, List.getElem?_toArray, List.getElem?_cons_zero, Sem.run_bind, run_underlying hd, Result.andThen_ok]
    rfl
  · rename_i E hk
    rw [hk] at hkk
    rw [hkk.1] at hd
    have key : ∀ ao m cap, ρ x = .slice ao m cap → (Builtin.len_ #[T] o.type #[ρ x]).run P w = .ok (.int .i64 m) w := by
      intro ao m cap hv
      rw [hv]
      simp only [Builtin.len_, List.getElem?_toArray, List.getElem?_cons_zero, Sem.run_bind, run_underlying hd, Result.andThen_ok]
      rfl
    split at e
    · rename_i t l hone
      cases e
      have := AV.one_rel hone ha
      obtain ⟨ao, cap, h0, _⟩ := this
      exact fin (by omega) (key ao l.length cap (by simpa using h0))
    · rename_i hone
      cases e
      have := AV.one_rel hone ha
      exact fin (by omega) (key none 0 0 this)
    · rename_i b hone
      have hr := AV.one_rel hone ha
      split at e
      · rename_i E' t l hb
        cases e
        obtain ⟨vs, k1, k2, k3⟩ := h.sat b _ hb
        rcases rowOwn_slice k2 with ⟨q, q0⟩ | ⟨g, cap, q⟩
        · exact fin (by omega) (by rw [q0]; exact key none 0 0 (hr.1.trans q))
        · exact fin (by omega) (key _ _ cap (hr.1.trans q))
      · rename_i E' m cs hb
        cases e
        obtain ⟨g, vs, k1, k2, k3, k4, k5⟩ := h.sat b _ hb
        exact fin (by omega) (key _ m m (hr.1.trans k1))
      · rename_i E' t l1 cs l2 hb
        cases e
        obtain ⟨v1, c1, v2, k1, k2, k3, k4, k5, k6⟩ := h.sat b _ hb
        rcases rowOwn_slice k5 with ⟨q, q0⟩ | ⟨g, cap, q⟩
        · omega
        · exact fin (by omega) (key _ _ cap (hr.1.trans q))
      · cases e
    · cases e
  · rename_i hk
    rw [hk] at hkk
    rw [hkk.1] at hd
    split at e
    · rename_i s hone
      cases e
      have hr := AV.one_rel hone ha
      have hv : ρ x = .string s := by simpa using hr.1
      refine fin (by omega) ?_
      rw [hv]
      simp only [Builtin.len_, List.getElem?_toArray, List.getElem?_cons_zero, Sem.run_bind, run_underlying hd, Result.andThen_ok]
      rfl
    · cases e
  · cases e

/-! ### bytes of strings, parts of aggregates, tuples -/
def byteAt (s : ByteArray) (n : Nat) : Int := ((s.data.toList.getD n 0).toNat : Int)
theorem byteAt_in (s : ByteArray) (n : Nat) : 0 ≤ byteAt s n ∧ byteAt s n ≤ 255 := by
  unfold byteAt
  have := (s.data.toList.getD n 0).toNat_lt
  omega
theorem indexStr_sound {P : Program} {F : Fr} {hp : Nat → Option Ob} {G : Gh} {ρ : Operand → Value} {o : Oper} {w : World} (T : TypeId) (x y : Operand) (ho : o.op = .index T x y) {i : TI} (hi : i.ok P T) (hk : i.kind = .str)
    {s : ByteArray} {ix : Lf} {n : Int} (hn : lfInt ix = some n) (h0 : 0 ≤ n ∧ n < s.size) (h : RepH F hp G w) (ha : (Lf.d .str s).rel w G (Okay F hp G) (ρ x)) (hix : ix.rel w G (Okay F hp G) (ρ y)) :
    Runs P ρ o w (Aft F hp G w hp (.v false [mkI .u8 (byteAt s n.toNat)]) []) := by
  obtain ⟨d, hd, hkk⟩ := hi.und
  rw [hk] at hkk
  rw [hkk.1] at hd
  obtain ⟨k, hy⟩ := lfInt_rel hn hix
  have hv : ρ x = .string s := by simpa using ha.1
  have hlt : n.toNat < s.size := by omega
  have hb := byteAt_in s n.toNat
  refine Runs.of_ok (v := .int .u8 (byteAt s n.toNat)) ?_ (Aft.still h (AV.rel_of (mkI_rel (by simp only [kmin]; omega) (by simp only [kmax]; omega))))
  have hget : s[n.toNat]? = some (s.data.toList.getD n.toNat 0) := by
    rw [getElem?_pos s n.toNat hlt]
    congr 1
    rw [List.getD_eq_getElem?_getD, Array.getElem?_toList]
    rw [Array.getElem?_eq_getElem (show n.toNat < s.data.size from hlt)]
    rfl
  simp only [execOp, ho, Instr.index, hv, hy, asIntOf, Sem.run_bind, Sem.run_pure, Result.andThen_ok, run_underlying hd, h0.1, if_true, hget]
  rfl

theorem run_part_of {P : Program} {w : World} {t : TypeId} {j : TI} (hj : j.ok P t) (h1 : j.agg = false → j.size = 1) {vs : List Value} {off : Nat} (hle : off + j.size ≤ vs.length) :
    (part t vs.toArray off).run P w = .ok (mkV j.agg ((vs.drop off).take j.size)) w := by
  cases hagg : j.agg with
  | true =>
    simp only [part, Sem.run_bind, run_agg hj, hagg, Result.andThen_ok, if_true, run_size hj, Sem.run_pure]
    congr 1
    simp only [mkV]
    congr 1
    rw [List.extract_toArray]
    congr 1
    rw [List.extract_eq_take_drop, Nat.add_sub_cancel_left]
  | false =>
    have hs := h1 hagg
    rw [hs] at hle ⊢
    have hlt : off < vs.length := by omega
    simp only [part, Sem.run_bind, run_agg hj, hagg, Result.andThen_ok, Bool.false_eq_true, if_false, List.getElem?_toArray, List.getElem?_eq_getElem hlt]
    rw [List.drop_eq_getElem_cons hlt]
    rfl

theorem field_sound {P : Program} {F : Fr} {hp : Nat → Option Ob} {G : Gh} {ρ : Operand → Value} {o : Oper} {w : World} (s : TypeId) (x : Operand) (f : Nat) (ho : o.op = .field s x f) {i j : TI} {fs : List (Nat × TypeId)} {off : Nat} {ft : TypeId}
    (hi : i.ok P s) (hk : i.kind = .struct fs) (hf : fs[f]? = some (off, ft)) (hj : j.ok P ft) (h1 : j.agg = false → j.size = 1) {ls : List Lf} (hle : off + j.size ≤ ls.length)
    (h : RepH F hp G w) (ha : (AV.v true ls).rel w G (Okay F hp G) (ρ x)) : Runs P ρ o w (Aft F hp G w hp (.v j.agg ((ls.drop off).take j.size)) []) := by
  obtain ⟨d, hd, hkk⟩ := hi.und
  rw [hk] at hkk
  obtain ⟨_, a, rfl, rfl⟩ := hkk
  have hfa : ∃ fl, a[f]? = some fl ∧ fl.offset = off ∧ fl.type = ft := by
    rw [List.getElem?_map, Option.map_eq_some_iff] at hf
    obtain ⟨fl, h1, h2⟩ := hf
    simp only [Prod.mk.injEq] at h2
    exact ⟨fl, by simpa using h1, h2.1, h2.2⟩
  obtain ⟨fl, q1, rfl, rfl⟩ := hfa
  obtain ⟨vs, v1, v2, _⟩ := ha
  have vl : vs.length = ls.length := relL_len v1
  have hrun := run_part_of (P := P) (w := w) hj h1 (vs := vs) (off := fl.offset) (by rw [vl]; exact hle)
  refine Runs.of_ok (v := mkV j.agg ((vs.drop fl.offset).take j.size)) ?_ (Aft.still h (relE_mk (relL_take _ (relL_drop _ v1)) fun hag => ?_))
  · simp only [execOp, ho, Instr.field, Sem.run_bind, run_underlying hd, Result.andThen_ok, q1, v2, mkV, asAgg, Sem.run_pure, hrun]
  · rw [List.length_take, List.length_drop, vl]
    have := h1 hag
    omega

theorem indexArr_sound {P : Program} {F : Fr} {hp : Nat → Option Ob} {G : Gh} {ρ : Operand → Value} {o : Oper} {w : World} (T : TypeId) (x y : Operand) (ho : o.op = .index T x y) {i j : TI} {m : Nat} {e : TypeId}
    (hi : i.ok P T) (hk : i.kind = .array m e) (hj : j.ok P e) (h1 : j.agg = false → j.size = 1) {ls : List Lf} {n : Int} {ix : Lf} (hle : n.toNat * j.size + j.size ≤ ls.length) (hn : lfInt ix = some n) (h0 : 0 ≤ n ∧ n < m)
    (h : RepH F hp G w) (ha : (AV.v true ls).rel w G (Okay F hp G) (ρ x)) (hix : ix.rel w G (Okay F hp G) (ρ y)) : Runs P ρ o w (Aft F hp G w hp (.v j.agg ((ls.drop (n.toNat * j.size)).take j.size)) []) := by
  obtain ⟨d, hd, hkk⟩ := hi.und
  rw [hk] at hkk
  rw [hkk.1] at hd
  obtain ⟨k, hy⟩ := lfInt_rel hn hix
  obtain ⟨vs, v1, v2, _⟩ := ha
  have vl : vs.length = ls.length := relL_len v1
  have hrun := run_part_of (P := P) (w := w) hj h1 (vs := vs) (off := n.toNat * j.size) (by rw [vl]; exact hle)
  refine Runs.of_ok (v := mkV j.agg ((vs.drop (n.toNat * j.size)).take j.size)) ?_ (Aft.still h (relE_mk (relL_take _ (relL_drop _ v1)) fun hag => ?_))
  · simp only [execOp, ho, Instr.index, Sem.run_bind, hy, asIntOf, Sem.run_pure, run_underlying hd, Result.andThen_ok, v2, mkV, h0.1, h0.2, and_self, if_true, run_size hj, hrun]
  · rw [List.length_take, List.length_drop, vl]
    have := h1 hag
    omega

theorem relT_at {w : World} {G : Gh} {A : Nat → Prop} : ∀ {es : List (Bool × List Lf)} {vs : List Value}, relT w G A es vs → ∀ {k : Nat} {e : Bool × List Lf}, es[k]? = some e → ∃ v, vs[k]? = some v ∧ relE w G A e v
  | x :: xs, vs, h, 0, e, he => by obtain ⟨v, r, rfl, h1, h2⟩ := h; cases he; exact ⟨v, rfl, h1⟩
  | x :: xs, vs, h, k + 1, e, he => by obtain ⟨v, r, rfl, h1, h2⟩ := h; exact relT_at h2 (k := k) he
  | [], vs, h, k, e, he => by simp at he
theorem extract_sound {P : Program} {F : Fr} {hp : Nat → Option Ob} {G : Gh} {ρ : Operand → Value} {o : Oper} {w : World} (x : Operand) (k : Nat) (ho : o.op = .extract x k) {es : List (Bool × List Lf)} {e : Bool × List Lf} (he : es[k]? = some e)
    (h : RepH F hp G w) (ha : (AV.tu es).rel w G (Okay F hp G) (ρ x)) : Runs P ρ o w (Aft F hp G w hp (.v e.1 e.2) []) := by
  obtain ⟨vs, v1, v2⟩ := ha
  obtain ⟨v, q1, q2⟩ := relT_at v2 he
  refine Runs.of_ok (v := v) ?_ (Aft.still h q2)
  simp only [execOp, ho, Instr.extract, v1, List.getElem?_toArray, q1, Sem.run_bind, Sem.run_pure, Result.andThen_ok]

theorem nilCheck_sound {P : Program} {F : Fr} {hp : Nat → Option Ob} {G : Gh} {ρ : Operand → Value} {o : Oper} {w : World} (x : Operand) (ho : o.op = .nilCheck x) {a : Lf} (hk : (match a with | .p _ _ => true | .dp _ _ => true | .pe _ _ _ _ => true | .px _ _ _ _ => true | .fn _ _ => true | _ => false) = true)
    (h : RepH F hp G w) (ha : a.rel w G (Okay F hp G) (ρ x)) : Runs P ρ o w (Aft F hp G w hp (.v false [a]) []) := by
  refine Runs.of_ok (v := ρ x) ?_ (Aft.still h (AV.rel_of ha))
  cases a with
  | p b off => obtain ⟨g, _, e⟩ := ha; simp only [execOp, ho, e]; rfl
  | dp t y => obtain ⟨g, off, cs, e, _⟩ := ha; simp only [execOp, ho, e]; rfl
  | pe b i s k => obtain ⟨g, _, e⟩ := ha; simp only [execOp, ho, e]; rfl
  | fn f c => obtain ⟨gs, e, _⟩ := ha; simp only [execOp, ho, e]; rfl
  | px b i s k => obtain ⟨g, _, e⟩ := ha; simp only [execOp, ho, e]; rfl
  | _ => cases hk
end Go.Proofs.Ytgdlbpihkodeoaa
