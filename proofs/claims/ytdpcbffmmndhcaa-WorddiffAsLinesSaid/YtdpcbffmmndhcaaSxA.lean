/- Sx, part A: data that memory reads as, names for what a call owns, what a state says. No program in sight. -/
import Derived.Test.YtdpcbffmmndhcaaBase
import Derived.Maps.AppendAt
import Derived.Test.YtdpcbffmmndhcaaOnly
namespace Go.Proofs.Ytdpcbffmmndhcaa
open Go.RowKit

/-- the types of data -/
inductive Ty where
  | int (k : IntKind)
  | bool
  | str
  | slice (e : Ty)
  | pair (a b : Ty)
  | st (a : Ty)
  deriving DecidableEq

@[reducible] def Ty.den : Ty → Type
  | .int _ => Int
  | .bool => Bool
  | .str => ByteArray
  | .slice e => List e.den
  | .pair a b => a.den × b.den
  | .st a => a.den

def Ty.size : Ty → Nat
  | .pair a b => a.size + b.size
  | .st a => a.size
  | _ => 1

def Ty.dflt : (t : Ty) → t.den
  | .int _ => (0 : Int)
  | .bool => false
  | .str => ByteArray.empty
  | .slice _ => []
  | .pair a b => (a.dflt, b.dflt)
  | .st a => a.dflt

theorem Ty.size_pos : ∀ t : Ty, 0 < t.size
  | .int _ => Nat.one_pos
  | .bool => Nat.one_pos
  | .str => Nat.one_pos
  | .slice _ => Nat.one_pos
  | .pair a b => Nat.add_pos_left a.size_pos _
  | .st a => a.size_pos

/-- data x of type t lie in the cells cs, what they lead to in blocks of A -/
def Ty.rd (w : World) (A : Nat → Prop) : (t : Ty) → t.den → List Value → Prop
  | .int k, n, cs => cs = [.int k n] ∧ k.min ≤ n ∧ n ≤ k.max
  | .bool, x, cs => cs = [.bool x]
  | .str, s, cs => cs = [.string s] ∧ s.size ≤ maxLen
  | .slice e, l, cs => ∃ ao cap, cs = [.slice ao l.length cap] ∧ l.length ≤ cap ∧ cap ≤ maxLen ∧ (ao = none → cap = 0) ∧
      ∀ i (h : i < l.length), ∃ b off es, ao = some ⟨b, off, none⟩ ∧ A b ∧ b < w.heap.size ∧ e.rd w A l[i] es ∧ ∀ j (hj : j < es.length), w.cell? ⟨b, off + (i * e.size + j), none⟩ = some es[j]
  | .pair a b, x, cs => ∃ c1 c2, cs = c1 ++ c2 ∧ a.rd w A x.1 c1 ∧ b.rd w A x.2 c2
  | .st a, x, cs => a.rd w A x cs

theorem Ty.rd_len {w : World} {A : Nat → Prop} : ∀ (t : Ty) (x : t.den) (cs : List Value), t.rd w A x cs → cs.length = t.size
  | .int k, n, cs, h => by rw [h.1]; rfl
  | .bool, n, cs, h => by rw [show cs = _ from h]; rfl
  | .str, n, cs, h => by rw [h.1]; rfl
  | .slice e, n, cs, h => by obtain ⟨ao, cap, rfl, _⟩ := h; rfl
  | .pair a b, x, cs, h => by
    obtain ⟨c1, c2, rfl, h1, h2⟩ := h
    rw [List.length_append, Ty.rd_len a _ _ h1, Ty.rd_len b _ _ h2]
    rfl
  | .st a, x, cs, h => Ty.rd_len a x cs h

theorem Ty.rd_one {w : World} {A : Nat → Prop} : ∀ (t : Ty) (x : t.den) (cs : List Value), t.rd w A x cs → ∀ u ∈ cs, u.oneCell' = true
  | .int k, n, cs, h => by rw [h.1]; simp; rfl
  | .bool, n, cs, h => by rw [show cs = _ from h]; simp; rfl
  | .str, n, cs, h => by rw [h.1]; simp; rfl
  | .slice e, n, cs, h => by obtain ⟨ao, cap, rfl, _⟩ := h; simp; rfl
  | .pair a b, x, cs, h => by
    obtain ⟨c1, c2, rfl, h1, h2⟩ := h
    intro u hu
    rcases List.mem_append.1 hu with hu | hu
    · exact Ty.rd_one a _ _ h1 u hu
    · exact Ty.rd_one b _ _ h2 u hu
  | .st a, x, cs, h => Ty.rd_one a x cs h

theorem cell_same {w w' : World} {b o : Nat} (h : w'.heap[b]? = w.heap[b]?) : w'.cell? ⟨b, o, none⟩ = w.cell? ⟨b, o, none⟩ := by simp [World.cell?, h]

/-- data stay while the blocks of A do -/
theorem Ty.rd_mono {w w' : World} {A A' : Nat → Prop} (hs : w.heap.size ≤ w'.heap.size) (hA : ∀ b, A b → b < w.heap.size → A' b ∧ w'.heap[b]? = w.heap[b]?) :
    ∀ (t : Ty) (x : t.den) (cs : List Value), t.rd w A x cs → t.rd w' A' x cs
  | .int k, n, cs, h => h
  | .bool, n, cs, h => h
  | .str, n, cs, h => h
  | .slice e, l, cs, h => by
    obtain ⟨ao, cap, h0, h1, h2, h3, h4⟩ := h
    refine ⟨ao, cap, h0, h1, h2, h3, fun i hi => ?_⟩
    obtain ⟨b, off, es, k0, k1, k2, k3, k4⟩ := h4 i hi
    obtain ⟨a1, a2⟩ := hA b k1 k2
    exact ⟨b, off, es, k0, a1, Nat.lt_of_lt_of_le k2 hs, Ty.rd_mono hs hA e _ _ k3, fun j hj => (cell_same a2).trans (k4 j hj)⟩
  | .pair a b, x, cs, h => by
    obtain ⟨c1, c2, h0, h1, h2⟩ := h
    exact ⟨c1, c2, h0, Ty.rd_mono hs hA a _ _ h1, Ty.rd_mono hs hA b _ _ h2⟩
  | .st a, x, cs, h => Ty.rd_mono hs hA a x cs h

/-- a cell of a state: data, a nil slice, an address in a named block, nil, a slice that is a named row, an address of data, an address in a named row, a function -/
inductive Lf where
  | d (t : Ty) (x : t.den)
  | nl
  | p (b off : Nat)
  | np
  | o (b : Nat)
  | dp (t : Ty) (x : t.den)
  | pe (b i s k : Nat)
  | fn (f : FuncId) (c : List Nat)
  | nf
  | un
  | px (b i s k : Nat)

/-- what a slot holds: one cell or an aggregate; a tuple of such -/
inductive AV where
  | v (agg : Bool) (ls : List Lf)
  | tu (es : List (Bool × List Lf))
  | un

structure Gh where
  r : Nat → Value
  f : Nat → Nat → Prop

def boxAt (G : Gh) (b g : Nat) : Prop := G.r b = .pointer (some ⟨g, 0, none⟩)

def Lf.rel (w : World) (G : Gh) (A : Nat → Prop) : Lf → Value → Prop
  | .d t x, v => t.rd w A x [v]
  | .nl, v => v = .slice none 0 0
  | .p b off, v => ∃ g, boxAt G b g ∧ v = .pointer (some ⟨g, off, none⟩)
  | .np, v => v = .pointer none
  | .o b, v => v = G.r b ∧ v.oneCell' = true
  | .dp t x, v => ∃ g off cs, v = .pointer (some ⟨g, off, none⟩) ∧ A g ∧ g < w.heap.size ∧ t.rd w A x cs ∧ ∀ j (h : j < cs.length), w.cell? ⟨g, off + j, none⟩ = some cs[j]
  | .pe b i s k, v => ∃ g, (G.r b).ownBlock = some g ∧ v = .pointer (some ⟨g, i * s + k, none⟩)
  | .fn f c, v => ∃ gs : List Nat, v = .func (.func f) #[] (gs.map fun g => Value.pointer (some ⟨g, 0, none⟩)).toArray ∧ gs.length = c.length ∧ ∀ i (h : i < c.length) (h' : i < gs.length), boxAt G c[i] gs[i]
  | .nf, v => v = .nilFunc
  | .un, v => v.oneCell' = true
  | .px b i s k, v => ∃ g, (G.r b).ownBlock = some g ∧ v = .pointer (some ⟨g, i * s + k, none⟩)

/-- the names that a cell speaks of -/
def Lf.names : Lf → List Nat
  | .p b _ => [b]
  | .o b => [b]
  | .pe b _ _ _ => [b]
  | .fn _ c => c
  | .px b _ _ _ => [b]
  | _ => []

def relL (w : World) (G : Gh) (A : Nat → Prop) : List Lf → List Value → Prop
  | [], vs => vs = []
  | x :: xs, vs => ∃ v r, vs = v :: r ∧ x.rel w G A v ∧ relL w G A xs r

def mkV : Bool → List Value → Value
  | true, vs => .agg vs.toArray
  | false, vs => vs.headD undef

def relE (w : World) (G : Gh) (A : Nat → Prop) (e : Bool × List Lf) (v : Value) : Prop := ∃ vs, relL w G A e.2 vs ∧ v = mkV e.1 vs ∧ (e.1 = false → vs.length = 1)

def relT (w : World) (G : Gh) (A : Nat → Prop) : List (Bool × List Lf) → List Value → Prop
  | [], vs => vs = []
  | x :: xs, vs => ∃ v r, vs = v :: r ∧ relE w G A x v ∧ relT w G A xs r

def AV.rel (w : World) (G : Gh) (A : Nat → Prop) : AV → Value → Prop
  | .v agg ls, u => relE w G A (agg, ls) u
  | .tu es, u => ∃ vs, u = .tuple vs.toArray ∧ relT w G A es vs
  | .un, _ => True

def AV.names : AV → List Nat
  | .v _ ls => ls.flatMap Lf.names
  | .tu es => es.flatMap fun e => e.2.flatMap Lf.names
  | .un => []

theorem Lf.rel_one {w : World} {G : Gh} {A : Nat → Prop} {x : Lf} {v : Value} (h : x.rel w G A v) : v.oneCell' = true := by
  cases x with
  | d t x => exact Ty.rd_one t x _ h v (by simp)
  | nl => rw [show v = _ from h]; rfl
  | p b off => obtain ⟨g, _, rfl⟩ := h; rfl
  | np => rw [show v = _ from h]; rfl
  | o b => exact h.2
  | dp t x => obtain ⟨g, off, cs, rfl, _⟩ := h; rfl
  | pe b i s k => obtain ⟨g, _, rfl⟩ := h; rfl
  | fn f c => obtain ⟨gs, rfl, _⟩ := h; rfl
  | nf => rw [show v = _ from h]; rfl
  | un => exact h
  | px b i s k => obtain ⟨g, _, rfl⟩ := h; rfl

/-- what changes from one world to the next, by the names: Nw are new -/
structure Ext (Ft : Nat → Prop) (A : Nat → Prop) (G : Gh) (w : World) (A' : Nat → Prop) (G' : Gh) (w' : World) (Nw : List Nat) : Prop where
  only : Only Ft w w'
  keepA : ∀ k, k < w.heap.size → A k → A' k
  apart : ∀ k, A k → ¬ Ft k
  r : ∀ b, b ∉ Nw → G'.r b = G.r b

theorem Ext.rd {Ft A : Nat → Prop} {G : Gh} {w : World} {A' : Nat → Prop} {G' : Gh} {w' : World} {Nw : List Nat} (h : Ext Ft A G w A' G' w' Nw) (t : Ty) (x : t.den) (cs : List Value) (hr : t.rd w A x cs) : t.rd w' A' x cs :=
  Ty.rd_mono h.only.size (fun b hb hl => ⟨h.keepA b hl hb, h.only.block b hl (h.apart b hb)⟩) t x cs hr

theorem Ext.lf {Ft A : Nat → Prop} {G : Gh} {w : World} {A' : Nat → Prop} {G' : Gh} {w' : World} {Nw : List Nat} (h : Ext Ft A G w A' G' w' Nw) {x : Lf} {v : Value} (hn : ∀ b ∈ x.names, b ∉ Nw) (hr : x.rel w G A v) : x.rel w' G' A' v := by
  cases x with
  | d t x => exact h.rd t x _ hr
  | nl => exact hr
  | p b off => obtain ⟨g, h1, h2⟩ := hr; exact ⟨g, (h.r b (hn b (by simp [Lf.names]))).trans h1, h2⟩
  | np => exact hr
  | o b => exact ⟨hr.1.trans (h.r b (hn b (by simp [Lf.names]))).symm, hr.2⟩
  | dp t x =>
    obtain ⟨g, off, cs, h1, h2, h3, h4, h5⟩ := hr
    exact ⟨g, off, cs, h1, h.keepA g h3 h2, Nat.lt_of_lt_of_le h3 h.only.size, h.rd t x _ h4, fun j hj => (cell_same (h.only.block g h3 (h.apart g h2))).trans (h5 j hj)⟩
  | pe b i s k => obtain ⟨g, h1, h2⟩ := hr; exact ⟨g, by rw [h.r b (hn b (by simp [Lf.names]))]; exact h1, h2⟩
  | fn f c =>
    obtain ⟨gs, h1, h2, h3⟩ := hr
    exact ⟨gs, h1, h2, fun i hi hi' => (h.r _ (hn _ (by simp [Lf.names]))).trans (h3 i hi hi')⟩
  | nf => exact hr
  | un => exact hr
  | px b i s k => obtain ⟨g, h1, h2⟩ := hr; exact ⟨g, by rw [h.r b (hn b (by simp [Lf.names]))]; exact h1, h2⟩

theorem Ext.ls {Ft A : Nat → Prop} {G : Gh} {w : World} {A' : Nat → Prop} {G' : Gh} {w' : World} {Nw : List Nat} (h : Ext Ft A G w A' G' w' Nw) : ∀ {xs : List Lf} {vs : List Value}, (∀ b ∈ xs.flatMap Lf.names, b ∉ Nw) → relL w G A xs vs → relL w' G' A' xs vs
  | [], vs, _, hr => hr
  | x :: xs, vs, hn, hr => by
    obtain ⟨v, r, h1, h2, h3⟩ := hr
    exact ⟨v, r, h1, h.lf (fun b hb => hn b (by simp [hb])) h2, h.ls (fun b hb => hn b (by simp only [List.flatMap_cons, List.mem_append]; exact .inr hb)) h3⟩

theorem Ext.e {Ft A : Nat → Prop} {G : Gh} {w : World} {A' : Nat → Prop} {G' : Gh} {w' : World} {Nw : List Nat} (h : Ext Ft A G w A' G' w' Nw) {x : Bool × List Lf} {v : Value} (hn : ∀ b ∈ x.2.flatMap Lf.names, b ∉ Nw) (hr : relE w G A x v) : relE w' G' A' x v := by
  obtain ⟨vs, h1, h2, h3⟩ := hr
  exact ⟨vs, h.ls hn h1, h2, h3⟩

theorem Ext.tu {Ft A : Nat → Prop} {G : Gh} {w : World} {A' : Nat → Prop} {G' : Gh} {w' : World} {Nw : List Nat} (h : Ext Ft A G w A' G' w' Nw) : ∀ {xs : List (Bool × List Lf)} {vs : List Value}, (∀ b ∈ xs.flatMap (fun e => e.2.flatMap Lf.names), b ∉ Nw) → relT w G A xs vs → relT w' G' A' xs vs
  | [], vs, _, hr => hr
  | x :: xs, vs, hn, hr => by
    obtain ⟨v, r, h1, h2, h3⟩ := hr
    exact ⟨v, r, h1, h.e (fun b hb => hn b (by simp only [List.flatMap_cons, List.mem_append]; exact .inl hb)) h2, h.tu (fun b hb => hn b (by simp only [List.flatMap_cons, List.mem_append]; exact .inr hb)) h3⟩

theorem Ext.av {Ft A : Nat → Prop} {G : Gh} {w : World} {A' : Nat → Prop} {G' : Gh} {w' : World} {Nw : List Nat} (h : Ext Ft A G w A' G' w' Nw) {x : AV} {v : Value} (hn : ∀ b ∈ x.names, b ∉ Nw) (hr : x.rel w G A v) : x.rel w' G' A' v := by
  cases x with
  | v agg ls => exact h.e (x := (agg, ls)) hn hr
  | tu es => obtain ⟨vs, h1, h2⟩ := hr; exact ⟨vs, h1, h.tu hn h2⟩
  | un => trivial

/-- what a name stands for: a block known cell by cell (behind a pointer, behind a slice), a row of data that grows -/
inductive Ob where
  | box (T : TypeId) (cs : List Lf)
  | arr (E : TypeId) (n : Nat) (cs : List Lf)
  | row (E : TypeId) (t : Ty) (l : List t.den)
  | rox (E : TypeId) (t : Ty) (l1 : List t.den) (cs : List Lf) (l2 : List t.den)

def Ob.names : Ob → List Nat
  | .box _ cs => cs.flatMap Lf.names
  | .arr _ _ cs => cs.flatMap Lf.names
  | .row _ _ _ => []
  | .rox _ _ _ cs _ => cs.flatMap Lf.names

/-- the cells of a row -/
def rdL (w : World) (A : Nat → Prop) (t : Ty) : List t.den → List Value → Prop
  | [], vs => vs = []
  | x :: xs, vs => ∃ c r, vs = c ++ r ∧ t.rd w A x c ∧ rdL w A t xs r

theorem rdL_len {w : World} {A : Nat → Prop} {t : Ty} : ∀ {l : List t.den} {vs : List Value}, rdL w A t l vs → vs.length = l.length * t.size
  | [], vs, h => by rw [show vs = _ from h]; simp
  | x :: xs, vs, h => by
    obtain ⟨c, r, rfl, h1, h2⟩ := h
    rw [List.length_append, Ty.rd_len t x c h1, rdL_len h2, List.length_cons, Nat.add_mul]
    omega
theorem rdL_one {w : World} {A : Nat → Prop} {t : Ty} : ∀ {l : List t.den} {vs : List Value}, rdL w A t l vs → ∀ u ∈ vs, u.oneCell' = true
  | [], vs, h => by rw [show vs = _ from h]; simp
  | x :: xs, vs, h => by
    obtain ⟨c, r, rfl, h1, h2⟩ := h
    intro u hu
    rcases List.mem_append.1 hu with hu | hu
    · exact Ty.rd_one t x c h1 u hu
    · exact rdL_one h2 u hu
theorem rdL_append {w : World} {A : Nat → Prop} {t : Ty} : ∀ {l m : List t.den} {vs us : List Value}, rdL w A t l vs → rdL w A t m us → rdL w A t (l ++ m) (vs ++ us)
  | [], m, vs, us, h, k => by rw [show vs = _ from h]; exact k
  | x :: xs, m, vs, us, h, k => by
    obtain ⟨c, r, rfl, h1, h2⟩ := h
    exact ⟨c, r ++ us, by simp, h1, rdL_append h2 k⟩
theorem rdL_at {w : World} {A : Nat → Prop} {t : Ty} : ∀ {l : List t.den} {vs : List Value}, rdL w A t l vs → ∀ i (h : i < l.length), t.rd w A l[i] ((vs.drop (i * t.size)).take t.size)
  | x :: xs, vs, h, 0, hi => by
    obtain ⟨c, r, rfl, h1, h2⟩ := h
    have := Ty.rd_len t x c h1
    simp only [Nat.zero_mul, List.drop_zero, List.getElem_cons_zero]
    rw [List.take_append_of_le_length (by omega), List.take_of_length_le (by omega)]
    exact h1
  | x :: xs, vs, h, i + 1, hi => by
    obtain ⟨c, r, rfl, h1, h2⟩ := h
    have h3 := Ty.rd_len t x c h1
    have ih := rdL_at h2 i (by simpa using hi)
    simp only [List.getElem_cons_succ]
    rw [show (i + 1) * t.size = c.length + i * t.size by rw [Nat.add_mul, h3]; omega, List.drop_append, List.drop_of_length_le (by omega), Nat.add_sub_cancel_left]
    exact ih
theorem rdL_mono {w w' : World} {A A' : Nat → Prop} (hs : w.heap.size ≤ w'.heap.size) (hA : ∀ b, A b → b < w.heap.size → A' b ∧ w'.heap[b]? = w.heap[b]?) {t : Ty} : ∀ {l : List t.den} {vs : List Value}, rdL w A t l vs → rdL w' A' t l vs
  | [], vs, h => h
  | x :: xs, vs, h => by
    obtain ⟨c, r, h0, h1, h2⟩ := h
    exact ⟨c, r, h0, Ty.rd_mono hs hA t x c h1, rdL_mono hs hA h2⟩

def Sat (w : World) (G : Gh) (A : Nat → Prop) (b : Nat) : Ob → Prop
  | .box T cs => ∃ g vs, boxAt G b g ∧ w.heap[g]? = some (.cells vs T (0, 0)) ∧ relL w G A cs vs.toList ∧ ∀ k, G.f b k ↔ k = g
  | .arr E n cs => ∃ g vs, G.r b = .slice (some ⟨g, 0, none⟩) n n ∧ n ≤ maxLen ∧ w.heap[g]? = some (.cells vs E (0, 0)) ∧ relL w G A cs vs.toList ∧ ∀ k, G.f b k ↔ k = g
  | .row E t l => ∃ vs, rdL w A t l vs ∧ w.ownsRow 0 E t.size (G.r b) l.length vs ∧ ∀ k, G.f b k ↔ (G.r b).ownBlock = some k
  | .rox E t l1 cs l2 => ∃ v1 c v2, rdL w A t l1 v1 ∧ relL w G A cs c ∧ c.length = t.size ∧ rdL w A t l2 v2 ∧ w.ownsRow 0 E t.size (G.r b) (l1.length + 1 + l2.length) (v1 ++ (c ++ v2)) ∧ ∀ k, G.f b k ↔ (G.r b).ownBlock = some k

/-- the frame of a call: the world of its beginning, the old blocks that data may lie in, the old blocks that it may change -/
structure Fr where
  w0 : World
  Z : Nat → Prop
  S : Nat → Prop
  old : Nat → Value

def Foot (hp : Nat → Option Ob) (G : Gh) (k : Nat) : Prop := ∃ b ob, hp b = some ob ∧ G.f b k
def Okay (F : Fr) (hp : Nat → Option Ob) (G : Gh) (k : Nat) : Prop := (F.Z k ∨ F.w0.heap.size ≤ k) ∧ ¬ Foot hp G k

structure RepH (F : Fr) (hp : Nat → Option Ob) (G : Gh) (w : World) : Prop where
  sat : ∀ b ob, hp b = some ob → Sat w G (Okay F hp G) b ob
  dj : ∀ b c ob oc, b ≠ c → hp b = some ob → hp c = some oc → ∀ k, G.f b k → ¬ G.f c k
  bd : ∀ b ob, hp b = some ob → ∀ k, G.f b k → k < w.heap.size ∧ (F.S k ∨ F.w0.heap.size ≤ k)
  fr : Only F.S F.w0 w
  zs : ∀ k, F.S k → F.Z k

/-- the slots from SUS on: what the callers' slots hold, of calls that are run in place -/
@[reducible] def SUS : Nat := 1000000
def vl (F : Fr) (a : Act) (t : Nat) : Value := bif Nat.blt t SUS then a.tmps.getD t undef else F.old t

structure Rep (F : Fr) (n : Nat) (sl : Nat → AV) (hp : Nat → Option Ob) (G : Gh) (a : Act) (w : World) : Prop where
  df : a.defers = []
  sz : a.tmps.size = n
  lm : n ≤ SUS
  sl : ∀ t, (sl t).rel w G (Okay F hp G) (vl F a t)
  hp : RepH F hp G w
end Go.Proofs.Ytdpcbffmmndhcaa
