/- Sx, part C: the operations, one by one: what a state says behind each. -/
import Derived.Test.YtdpcbffmmndhcaaSxB
namespace Go.Proofs.Ytdpcbffmmndhcaa
open Go.RowKit

inductive TK where
  | slice (e : TypeId)
  | array (n : Nat) (e : TypeId)
  | struct (fs : List (Nat × TypeId))
  | int (k : IntKind)
  | str
  | other

/-- a type as the steps see it -/
structure TI where
  size : Nat
  agg : Bool
  bytes : Nat
  kind : TK
  zc : List Value
  ty : Option Ty

def aggD : TypeDesc → Bool
  | .struct _ => true
  | .array _ _ => true
  | _ => false

def TK.ok (d : TypeDesc) (agg : Bool) : TK → Prop
  | .slice e => d = .slice e ∧ agg = false
  | .array n e => d = .array n e ∧ agg = true
  | .struct fs => agg = true ∧ ∃ a : Array Field, d = .struct a ∧ a.toList.map (fun f => (f.offset, f.type)) = fs
  | .int k => d = .int k ∧ agg = false
  | .str => d = .string ∧ agg = false
  | .other => aggD d = agg

structure TI.ok (P : Program) (t : TypeId) (i : TI) : Prop where
  inf : (P.info? t).map (fun j => (j.zero, j.size, j.bytes)) = some (some (mkV i.agg i.zc), i.size, i.bytes)
  und : ∃ d, P.underlying t = some d ∧ i.kind.ok d i.agg
  z : i.zc.length = i.size ∧ i.zc.all (fun u => u.oneCell') = true

def lfOf : Value → Lf
  | .int k n => bif decide (k.min ≤ n ∧ n ≤ k.max) then .d (.int k) n else .un
  | .bool b => .d .bool b
  | .string s => bif Nat.ble s.size 1000000 then .d .str s else .un
  | .slice none 0 0 => .nl
  | .pointer none => .np
  | .nilFunc => .nf
  | _ => .un

theorem lfOf_rel (w : World) (G : Gh) (A : Nat → Prop) (v : Value) (h : v.oneCell' = true) : (lfOf v).rel w G A v := by
  unfold lfOf
  split
  · rename_i k n
    by_cases hk : k.min ≤ n ∧ n ≤ k.max
    · simp only [hk, and_self, decide_true, cond_true]; exact ⟨rfl, hk⟩
    · simp only [decide_eq_false hk, cond_false]; exact h
  · rfl
  · rename_i s
    by_cases hk : s.size ≤ 1000000
    · rw [show Nat.ble s.size 1000000 = true from Nat.ble_eq_true_of_le hk]; exact ⟨rfl, Nat.le_trans hk (by decide)⟩
    · rw [show Nat.ble s.size 1000000 = false by rw [Bool.eq_false_iff]; intro e; exact hk (Nat.le_of_ble_eq_true e)]; exact h
  all_goals first | rfl | exact h

theorem lfOf_rels (w : World) (G : Gh) (A : Nat → Prop) : ∀ (vs : List Value), vs.all (fun u => u.oneCell') = true → relL w G A (vs.map lfOf) vs
  | [], _ => rfl
  | v :: vs, h => by
    simp only [List.all_cons, Bool.and_eq_true] at h
    exact ⟨v, vs, rfl, lfOf_rel w G A v h.1, lfOf_rels w G A vs h.2⟩

/-- the cells of data -/
def Ty.leaves : (t : Ty) → t.den → List Lf
  | .pair a b, x => a.leaves x.1 ++ b.leaves x.2
  | .st a, x => a.leaves x
  | .int k, x => [.d (.int k) x]
  | .bool, x => [.d .bool x]
  | .str, x => [.d .str x]
  | .slice e, x => [.d (.slice e) x]
def Ty.isSt : Ty → Bool
  | .st _ => true
  | _ => false

theorem relL_single {w : World} {G : Gh} {A : Nat → Prop} {x : Lf} {v : Value} (h : x.rel w G A v) : relL w G A [x] [v] := ⟨v, [], rfl, h, rfl⟩

theorem leaves_rel {w : World} {G : Gh} {A : Nat → Prop} : ∀ (t : Ty) (x : t.den) (cs : List Value), t.rd w A x cs → relL w G A (t.leaves x) cs
  | .pair a b, x, cs, h => by
    obtain ⟨c1, c2, rfl, h1, h2⟩ := h
    exact relL_append (leaves_rel a _ _ h1) (leaves_rel b _ _ h2)
  | .st a, x, cs, h => leaves_rel a x cs h
  | .int k, x, cs, h => by obtain ⟨rfl, h'⟩ := h; exact relL_single (x := .d (.int k) x) ⟨rfl, h'⟩
  | .bool, x, cs, h => by obtain rfl := (show cs = _ from h); exact relL_single (x := .d .bool x) rfl
  | .str, x, cs, h => by obtain ⟨rfl, h'⟩ := h; exact relL_single (x := .d .str x) ⟨rfl, h'⟩
  | .slice e, x, cs, h => by
    have h0 := h
    obtain ⟨ao, cap, rfl, _⟩ := h
    exact relL_single (x := .d (.slice e) x) h0
theorem leaves_len : ∀ (t : Ty) (x : t.den), (t.leaves x).length = t.size
  | .pair a b, x => by simp [Ty.leaves, Ty.size, leaves_len a, leaves_len b]
  | .st a, x => by simp only [Ty.leaves, Ty.size]; exact leaves_len a x
  | .int k, x => rfl
  | .bool, x => rfl
  | .str, x => rfl
  | .slice e, x => rfl

/-- the part of data at a cell -/
def Ty.comp : (t : Ty) → t.den → Nat → Option ((u : Ty) × u.den)
  | .pair a b, x, off => bif Nat.blt off a.size then a.comp x.1 off else b.comp x.2 (off - a.size)
  | .st a, x, off => bif Nat.beq off 0 then some ⟨.st a, x⟩ else a.comp x off
  | .int k, x, off => bif Nat.beq off 0 then some ⟨.int k, x⟩ else none
  | .bool, x, off => bif Nat.beq off 0 then some ⟨.bool, x⟩ else none
  | .str, x, off => bif Nat.beq off 0 then some ⟨.str, x⟩ else none
  | .slice e, x, off => bif Nat.beq off 0 then some ⟨.slice e, x⟩ else none
theorem comp_leaf {w : World} {A : Nat → Prop} {t : Ty} {x : t.den} {cs : List Value} {off : Nat} {u : Ty} {y : u.den} (h : t.rd w A x cs) (e : (bif Nat.beq off 0 then (some ⟨t, x⟩ : Option ((u : Ty) × u.den)) else none) = some ⟨u, y⟩) :
    ∃ c1 c2 c3, cs = c1 ++ (c2 ++ c3) ∧ c1.length = off ∧ u.rd w A y c2 := by
  cases h0 : Nat.beq off 0
  · rw [h0] at e; cases e
  · rw [h0] at e
    simp only [cond_true, Option.some.injEq] at e
    cases e
    have := Nat.eq_of_beq_eq_true h0
    subst this
    exact ⟨[], cs, [], by simp, rfl, h⟩
theorem comp_rd {w : World} {A : Nat → Prop} : ∀ (t : Ty) (x : t.den) (cs : List Value) (off : Nat) (u : Ty) (y : u.den), t.rd w A x cs → t.comp x off = some ⟨u, y⟩ → ∃ c1 c2 c3, cs = c1 ++ (c2 ++ c3) ∧ c1.length = off ∧ u.rd w A y c2
  | .pair a b, x, cs, off, u, y, h, e => by
    obtain ⟨q1, q2, rfl, h1, h2⟩ := h
    have hl := Ty.rd_len a _ _ h1
    unfold Ty.comp at e
    cases h0 : Nat.blt off a.size
    · rw [h0] at e
      simp only [cond_false] at e
      obtain ⟨c1, c2, c3, rfl, k1, k2⟩ := comp_rd b _ _ _ u y h2 e
      have : ¬ off < a.size := fun hh => by rw [show Nat.blt off a.size = true from Nat.ble_eq_true_of_le hh] at h0; cases h0
      exact ⟨q1 ++ c1, c2, c3, by simp, by rw [List.length_append, hl, k1]; omega, k2⟩
    · rw [h0] at e
      simp only [cond_true] at e
      obtain ⟨c1, c2, c3, rfl, k1, k2⟩ := comp_rd a _ _ _ u y h1 e
      exact ⟨c1, c2, c3 ++ q2, by simp, k1, k2⟩
  | .st a, x, cs, off, u, y, h, e => by
    unfold Ty.comp at e
    cases h0 : Nat.beq off 0
    · rw [h0] at e
      simp only [cond_false] at e
      exact comp_rd a x cs off u y h e
    · exact comp_leaf (t := .st a) (x := x) h (by rw [h0] at e ⊢; exact e)
  | .int k, x, cs, off, u, y, h, e => comp_leaf h e
  | .bool, x, cs, off, u, y, h, e => comp_leaf h e
  | .str, x, cs, off, u, y, h, e => comp_leaf h e
  | .slice k, x, cs, off, u, y, h, e => comp_leaf h e

/-- an operation runs, and R is what follows -/
def Runs (P : Program) (ρ : Operand → Value) (o : Oper) (w : World) (R : Value → World → Prop) : Prop :=
  match (execOp ρ o).run P w with
  | .ok (.value v) w' => R v w'
  | .ok .skip w' => R undef w'
  | .ok (.enter f args) w' => Calls P f args w' fun e w'' => ∃ v, e = .returned v ∧ R v w''
  | _ => False

theorem Runs.wp {P : Program} {o : Oper} {a : Act} {w : World} {R : Value → World → Prop} {K : Act → World → Prop} {Q : Exit → Act → World → Prop} (h : Runs P a.eval o w R) (hk : ∀ v w', R v w' → K (a.put o.dst v) w') : Oper.wp P o a w K Q := by
  unfold Runs at h
  unfold Oper.wp
  split at h
  · rename_i e; rw [e]; exact hk _ _ h
  · rename_i e; rw [e]; exact hk _ _ h
  · rename_i e; rw [e]
    refine Calls.mono h ?_
    rintro e w' ⟨v, rfl, hr⟩
    exact hk _ _ hr
  · exact h.elim

theorem Runs.of_ok {P : Program} {ρ : Operand → Value} {o : Oper} {w : World} {R : Value → World → Prop} {v : Value} {w' : World} (h : (execOp ρ o).run P w = .ok (.value v) w') (hR : R v w') : Runs P ρ o w R := by
  unfold Runs; rw [h]; exact hR
theorem Runs.of_skip {P : Program} {ρ : Operand → Value} {o : Oper} {w : World} {R : Value → World → Prop} {w' : World} (h : (execOp ρ o).run P w = .ok .skip w') (hR : R undef w') : Runs P ρ o w R := by
  unfold Runs; rw [h]; exact hR

/-- what follows a step, in the state's words: the heap behind it, the value; d: the name that is new, if one is -/
def Aft (F : Fr) (hp : Nat → Option Ob) (G : Gh) (w : World) (hp' : Nat → Option Ob) (x : AV) (nw : List Nat) (v : Value) (w' : World) : Prop :=
  ∃ G', Ext (Foot hp G) (Okay F hp G) G w (Okay F hp' G') G' w' nw ∧ RepH F hp' G' w' ∧ x.rel w' G' (Okay F hp' G') v

theorem Aft.still {F : Fr} {hp : Nat → Option Ob} {G : Gh} {w : World} {x : AV} {v : Value} (h : RepH F hp G w) (hx : x.rel w G (Okay F hp G) v) : Aft F hp G w hp x [] v w :=
  ⟨G, Ext.refl _ _ _ _ Okay.apart, h, hx⟩

def AV.one : AV → Option Lf
  | .v false [x] => some x
  | _ => none
theorem AV.one_eq {x : AV} {l : Lf} (h : x.one = some l) : x = .v false [l] := by
  unfold AV.one at h
  split at h
  · cases h; rfl
  · cases h
theorem rel_one_iff {w : World} {G : Gh} {A : Nat → Prop} {l : Lf} {v : Value} : (AV.v false [l]).rel w G A v ↔ l.rel w G A v := by
  constructor
  · rintro ⟨vs, ⟨u, r, rfl, h1, h2⟩, rfl, _⟩
    exact h1
  · intro h
    exact ⟨[v], relL_single h, rfl, fun _ => rfl⟩
theorem AV.one_rel {w : World} {G : Gh} {A : Nat → Prop} {x : AV} {l : Lf} {v : Value} (h : x.one = some l) (hr : x.rel w G A v) : l.rel w G A v := by
  rw [AV.one_eq h] at hr; exact rel_one_iff.1 hr
theorem AV.rel_of {w : World} {G : Gh} {A : Nat → Prop} {l : Lf} {v : Value} (h : l.rel w G A v) : (AV.v false [l]).rel w G A v := rel_one_iff.2 h

/-! ### addresses, loads -/
def cField (off : Nat) : Lf → Option Lf
  | .p b o => some (.p b (o + off))
  | .pe b i s k => some (.pe b i s (k + off))
  | .px b i s k => some (.px b i s (k + off))
  | .dp (.st t) x => match t.comp x off with
    | some ⟨u, y⟩ => some (.dp u y)
    | none => none
  | _ => none

theorem cField_rel {w : World} {G : Gh} {A : Nat → Prop} {off : Nat} {x y : Lf} {v : Value} (e : cField off x = some y) (h : x.rel w G A v) :
    ∃ g o, v = .pointer (some ⟨g, o, none⟩) ∧ y.rel w G A (.pointer (some ⟨g, o + off, none⟩)) := by
  unfold cField at e
  split at e
  · cases e
    obtain ⟨g, h1, rfl⟩ := h
    exact ⟨g, _, rfl, g, h1, rfl⟩
  · cases e
    obtain ⟨g, h1, rfl⟩ := h
    exact ⟨g, _, rfl, g, h1, by rw [Nat.add_assoc]⟩
  · cases e
    obtain ⟨g, h1, rfl⟩ := h
    exact ⟨g, _, rfl, g, h1, by rw [Nat.add_assoc]⟩
  · rename_i t x
    split at e
    · rename_i u y' hc
      cases e
      obtain ⟨g, o, cs, rfl, h1, h2, h3, h4⟩ := h
      obtain ⟨c1, c2, c3, rfl, k1, k2⟩ := comp_rd t x cs off u y' h3 hc
      refine ⟨g, o, rfl, g, o + off, c2, rfl, h1, h2, k2, fun j hj => ?_⟩
      have := h4 (off + j) (by simp; omega)
      rw [Nat.add_assoc, this]
      simp [← k1, hj]
    · cases e
  · cases e
end Go.Proofs.Ytdpcbffmmndhcaa
