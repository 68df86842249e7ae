/- Sx, part L: one operation of a region, with its guard. -/
import Derived.Test.YtdpcbffmmndhcaaSxK
namespace Go.Proofs.Ytdpcbffmmndhcaa
open Go.RowKit

/-- what an operation has left: the slot, the value, the heap's entries, the new names; the slots and the names that it has looked at -/
structure LE where
  dst : Option Nat
  x : AV
  hu : List HEnt
  nw : List Nat
  R : List Nat
  N : List Nat

def scrS : List Nat → (Nat → AV) → Nat → AV
  | [], sl => sl
  | d :: ds, sl => fun t => (scrS ds sl t).scrub d

def setS (dst : Option Nat) (x : AV) (sl : Nat → AV) : Nat → AV :=
  match dst with
  | none => sl
  | some d => upd sl d x

def tmpsOf (xs : Array Operand) : List Nat := xs.toList.filterMap fun | .tmp t => some t | _ => none
def gslot (ops : Array Oper) (o : Oper) : List Nat :=
  match o.guard with
  | none => []
  | some (j, _) => ((ops[j]?).bind (·.dst)).toList

/-- whether an operation is wanted: none where that is not known -/
def gstat (ops : Array Oper) (o : Oper) (sl : Nat → AV) : Option Bool :=
  match o.guard with
  | none => some true
  | some (j, want) => match (ops[j]?).bind (·.dst) with
    | none => none
    | some t => match sg sl t with
      | .v false [.d .bool b] => some (b == want)
      | .tu [] => some false
      | _ => none

def Does (E : Env) (n : Nat) (ops : Array Oper) (o : Oper) (sl : Nat → AV) (hp : Nat → Option Ob) (e : LE) : Prop :=
  (∀ d, o.dst = some d → d < n) ∧ e.dst = o.dst ∧ e.R = tmpsOf o.op.operands ++ gslot ops o ∧ e.N = (o.op.operands.toList.map (evA sl)).flatMap AV.names ∧
  ((gstat ops o sl = some true ∧ ∃ r, stepA E o (E.nb + o.dst.getD 0) (evA sl) hp = some r ∧ r.side ∧ e.x = r.val ∧ e.hu = r.hu ∧ e.nw = r.nw ∧ (o.dst = none → r.nw = [])) ∨
   (gstat ops o sl = some false ∧ e.x = .tu [] ∧ e.hu = [] ∧ e.nw = []))

theorem Ext.avScr {Ft A : Nat → Prop} {G : Gh} {w : World} {A' : Nat → Prop} {G' : Gh} {w' : World} {nw : List Nat} {d : Nat} (h : Ext Ft A G w A' G' w' nw) (hn : nw = [] ∨ nw = [d]) {sl : Nat → AV} {t : Nat} {v : Value} (hr : (sl t).rel w G A v) : (scrS nw sl t).rel w' G' A' v := by
  rcases hn with rfl | rfl
  · exact h.av (by simp) hr
  · exact h.avS hr

theorem rep_put {F : Fr} {n : Nat} {sl : Nat → AV} {hp hp' : Nat → Option Ob} {G : Gh} {a : Act} {w w' : World} (h : Rep F n sl hp G a w) (dst : Option Nat) (hd : ∀ d, dst = some d → d < n) {x : AV} {nw : List Nat} {nm : Nat} (hn : nw = [] ∨ nw = [nm]) {v : Value} (ha : Aft F hp G w hp' x nw v w') :
    ∃ G', Rep F n (setS dst x (scrS nw sl)) hp' G' (a.put dst v) w' := by
  obtain ⟨G', h1, h2, h3⟩ := ha
  refine ⟨G', ?_, ?_, h.lm, ?_, h2⟩
  · cases dst <;> exact h.df
  · cases dst with
    | none => exact h.sz
    | some d => simp [Act.put, h.sz]
  · intro t
    have hs : (scrS nw sl t).rel w' G' (Okay F hp' G') (vl F a t) := h1.avScr hn (h.sl t)
    cases dst with
    | none => exact hs
    | some d =>
      have hdn := hd d rfl
      have hdS : d < SUS := Nat.lt_of_lt_of_le hdn h.lm
      show (upd (scrS nw sl) d x t).rel w' G' (Okay F hp' G') (vl F (a.put (some d) v) t)
      by_cases ht : t = d
      · subst ht
        rw [upd_same]
        have : vl F (a.put (some t) v) t = v := by
          rw [vl_lt hdS]
          show (a.tmps.setIfInBounds t v).getD t undef = v
          simp only [Array.getD_eq_getD_getElem?]
          rw [Array.getElem?_setIfInBounds_self_of_lt (by rw [h.sz]; exact hdn)]
          rfl
        rw [this]
        exact h3
      · rw [upd_ne _ _ ht]
        have : vl F (a.put (some d) v) t = vl F a t := by
          unfold vl
          show (bif Nat.blt t SUS then (a.tmps.setIfInBounds d v).getD t undef else F.old t) = _
          simp only [Array.getD_eq_getD_getElem?]
          rw [Array.getElem?_setIfInBounds_ne (Ne.symm ht)]
        rw [this]
        exact hs

theorem gstat_wanted {n : Nat} {F : Fr} {sl : Nat → AV} {hp : Nat → Option Ob} {G : Gh} {a : Act} {w : World} (h : Rep F n sl hp G a w) {ops : Array Oper} {o : Oper} {b : Bool} (e : gstat ops o sl = some b) : Region.wanted o (yielded ops a.tmps) = b := by
  unfold gstat at e
  unfold Region.wanted
  split at e
  · rename_i hg
    rw [hg]
    cases e
    rfl
  · rename_i j want hg
    rw [hg]
    split at e
    · cases e
    · rename_i t ht
      have hr := sg_rel h.sl t
      have hlt : ∀ u, a.tmps.getD t undef = .bool u → yielded ops a.tmps j = some u := by
        intro u hu
        unfold yielded
        rw [ht]
        simp only [Option.bind_some]
        rw [Array.getD_eq_getD_getElem?] at hu
        cases hq : a.tmps[t]? with
        | none => rw [hq] at hu; cases hu
        | some y => rw [hq] at hu; simp only [Option.getD_some] at hu; rw [hu]
      split at e
      · rename_i c hc
        cases e
        rw [hc] at hr
        have hv : a.tmps.getD t undef = .bool c := by
          have := rel_one_iff.1 hr
          simpa using (show [a.tmps.getD t undef] = [.bool c] from this)
        show (yielded ops a.tmps j == some want) = _
        rw [hlt c hv]
        cases c <;> cases want <;> rfl
      · rename_i hc
        cases e
        rw [hc] at hr
        have hv : a.tmps.getD t undef = .tuple #[] := by
          obtain ⟨vs, h1, h2⟩ := hr
          obtain rfl := (show vs = _ from h2)
          exact h1
        have : yielded ops a.tmps j = none := by
          unfold yielded
          rw [ht]
          simp only [Option.bind_some]
          rw [Array.getD_eq_getD_getElem?] at hv
          cases hq : a.tmps[t]? with
          | none => rfl
          | some y => rw [hq] at hv; simp only [Option.getD_some] at hv; rw [hv]
        show (yielded ops a.tmps j == some want) = _
        rw [this]
        rfl
      · cases e

theorem tu_nil_rel {w : World} {G : Gh} {A : Nat → Prop} : (AV.tu []).rel w G A undef := ⟨[], rfl, rfl⟩

/-- an operation that the executor has done, run -/
theorem Does.run {P : Program} {E : Env} (hE : E.Ok P) {n : Nat} {ops : Array Oper} {o : Oper} {sl : Nat → AV} {hp : Nat → Option Ob} {e : LE} (h : Does E n ops o sl hp e) {F : Fr} {G : Gh} {a : Act} {w : World} (hr : Rep F n sl hp G a w)
    {Q : Exit → Act → World → Prop} {K : Act → World → Prop} (hK : ∀ G' a' w', Rep F n (setS e.dst e.x (scrS e.nw sl)) (happ e.hu hp) G' a' w' → K a' w') :
    if Region.wanted o (yielded ops a.tmps) then o.wp P a w K Q ∨ (o.asks P a w ∧ LetsOut Q) else K (a.put o.dst undef) w := by
  obtain ⟨h1, h2, _, _, h3⟩ := h
  rcases h3 with ⟨hg, r, k1, k2, k3, k4, k5, k6⟩ | ⟨hg, k3, k4, k5⟩
  · rw [gstat_wanted hr hg]
    simp only [if_true]
    obtain ⟨q1, q2⟩ := stepA_sound hE k1 k2 hr.hp (fun x => evA_rel hr.sl x)
    refine .inl (Runs.wp q2 fun v w' haft => ?_)
    obtain ⟨G', hrep⟩ := rep_put hr o.dst h1 q1 haft
    refine hK G' _ w' ?_
    rw [h2, k3, k4, k5]
    exact hrep
  · rw [gstat_wanted hr hg]
    simp only [Bool.false_eq_true, if_false]
    obtain ⟨G', hrep⟩ := rep_put (hp' := hp) (nm := 0) hr o.dst h1 (.inl rfl) (Aft.still hr.hp (tu_nil_rel))
    refine hK G' _ w ?_
    rw [h2, k3, k4, k5]
    exact hrep
end Go.Proofs.Ytdpcbffmmndhcaa
