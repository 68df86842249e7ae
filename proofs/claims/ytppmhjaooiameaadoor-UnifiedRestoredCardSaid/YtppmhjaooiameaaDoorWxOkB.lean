/- Functions whose answer is flat data, in rows that they have made: their arguments may be lent. -/
import Derived.Test.YtppmhjaooiameaaDoorFwE
namespace Go.Proofs.YtppmhjaooiameaaDoor
open Go.RowKit

theorem flat_rdL {w w' : World} {A A' : Nat → Prop} {t : Ty} (f : t.flat = true) : ∀ {l : List t.den} {vs : List Value}, rdL w A t l vs → rdL w' A' t l vs
  | [], _, h => h
  | x :: _, _, h => by obtain ⟨c, r, c1, c2, c3⟩ := h; exact ⟨c, r, c1, flat_rd t x c f c2, flat_rdL f c3⟩
def fbL (hp : Nat → Option Ob) (x y : Lf) : Prop := (x = y ∧ y.plain true = true) ∨ ∃ (e : Ty) (l : List e.den), y = .d (.slice e) l ∧ e.flat = true ∧ ((x = .nl ∧ l = []) ∨ ∃ b E, x = .o b ∧ hp b = some (.row E e l))
def fbLs (hp : Nat → Option Ob) : List Lf → List Lf → Prop
  | [], [] => True
  | x :: xs, y :: ys => fbL hp x y ∧ fbLs hp xs ys
  | _, _ => False
def fbEs (hp : Nat → Option Ob) : List (Bool × List Lf) → List (Bool × List Lf) → Prop
  | [], [] => True
  | x :: xs, y :: ys => (x.1 = y.1 ∧ fbLs hp x.2 y.2) ∧ fbEs hp xs ys
  | _, _ => False
def fbA (hp : Nat → Option Ob) : AV → AV → Prop
  | .v a xs, .v b ys => a = b ∧ fbLs hp xs ys
  | .tu es, .tu fs => fbEs hp es fs
  | _, _ => False
theorem fbL.same {hp : Nat → Option Ob} {x : Lf} (h : x.plain true = true) : fbL hp x x := .inl ⟨rfl, h⟩
theorem fbL.nil {hp : Nat → Option Ob} {e : Ty} (h : e.flat = true) : fbL hp .nl (.d (.slice e) []) := .inr ⟨e, [], rfl, h, .inl ⟨rfl, rfl⟩⟩
theorem fbL.row {hp : Nat → Option Ob} {e : Ty} {l : List e.den} {b : Nat} {E : TypeId} (h : e.flat = true) (hb : hp b = some (.row E e l)) : fbL hp (.o b) (.d (.slice e) l) := .inr ⟨e, l, rfl, h, .inr ⟨b, E, rfl, hb⟩⟩
section
variable {F : Fr} {hp : Nat → Option Ob} {G G' : Gh} {w : World} {A : Nat → Prop} (h : RepH F hp G w) (hS : ∀ k, ¬ F.S k) (hA : ∀ k, F.w0.heap.size ≤ k → A k)
include h hS hA
theorem fbL_rel {x y : Lf} {v : Value} (he : fbL hp x y) (hx : x.rel w G (Okay F hp G) v) : y.rel w G' A v := by
  rcases he with ⟨rfl, hp'⟩ | ⟨e, l, rfl, hf, ⟨rfl, rfl⟩ | ⟨b, E, rfl, hb⟩⟩
  · exact plain_lf (fl := true) (fun q => by cases q) hp' hx
  · obtain rfl := (show v = _ from hx)
    exact ⟨none, 0, rfl, Nat.le_refl _, Nat.zero_le _, fun _ => rfl, fun i hi => by simp at hi⟩
  · obtain ⟨vs, s1, s2, s3⟩ := h.sat b _ hb
    obtain ⟨rfl, -⟩ := hx
    exact reads_rdB (flat_rdL hf s1) s2 fun k hk => hA k ((h.bd b _ hb k ((s3 k).2 hk)).2.resolve_left (hS k))
theorem fbLs_rel : ∀ {xs ys : List Lf} {vs : List Value}, fbLs hp xs ys → relL w G (Okay F hp G) xs vs → relL w G' A ys vs
  | [], [], _, _, hx => hx
  | x :: xs, y :: ys, vs, he, hx => by
    obtain ⟨v, r, h1, h2, h3⟩ := hx
    exact ⟨v, r, h1, fbL_rel h hS hA he.1 h2, fbLs_rel he.2 h3⟩
  | [], _ :: _, _, he, _ => he.elim
  | _ :: _, [], _, he, _ => he.elim
theorem fbEs_rel : ∀ {xs ys : List (Bool × List Lf)} {vs : List Value}, fbEs hp xs ys → relT w G (Okay F hp G) xs vs → relT w G' A ys vs
  | [], [], _, _, hx => hx
  | x :: xs, y :: ys, vs, he, hx => by
    obtain ⟨v, r, h1, ⟨us, k1, k2, k3⟩, h3⟩ := hx
    refine ⟨v, r, h1, ⟨us, fbLs_rel h hS hA he.1.2 k1, ?_, ?_⟩, fbEs_rel he.2 h3⟩
    · rw [← he.1.1]; exact k2
    · rw [← he.1.1]; exact k3
  | [], _ :: _, _, he, _ => he.elim
  | _ :: _, [], _, he, _ => he.elim
theorem fbA_rel {x y : AV} {v : Value} (he : fbA hp x y) (hx : x.rel w G (Okay F hp G) v) : y.rel w G' A v := by
  cases x with
  | v a xs => cases y with
    | v b ys =>
      obtain ⟨rfl, he⟩ := he
      obtain ⟨us, k1, k2, k3⟩ := hx
      exact ⟨us, fbLs_rel h hS hA he k1, k2, k3⟩
    | tu fs => exact he.elim
    | un => trivial
  | tu es => cases y with
    | v b ys => exact he.elim
    | tu fs => obtain ⟨vs, h1, h2⟩ := hx; exact ⟨vs, h1, fbEs_rel h hS hA he h2⟩
    | un => trivial
  | un => cases y with
    | v b ys => exact he.elim
    | tu fs => exact he.elim
    | un => trivial
end
/-- a function whose answer is flat data in rows of its own; its arguments may be lent -/
theorem pureSp_okB {P : Program} {E : Env} (hE : E.Fine P) {f : FuncId} {fn : Func} (hf : P.funcs[f]? = some fn) {ts : List Ty} {pre : dens ts → Prop} {res : dens ts → AV}
    (h : ∀ xs, saneAll ts xs → pre xs → fnM E fn (argAV ts xs) [] (fun r hl => fbA (hget hl) r (res xs))) : SpecOk P f (pureSp true ts pre res) := by
  intro d args hp r hr hside
  unfold pureSp at hr
  split at hr
  · rename_i xs hxs
    cases hr
    refine ⟨.inl rfl, fun F G w vals hrep ha => ?_⟩
    refine Calls.mono (fnM_calls hE hf (h xs (args_sane _ _ _ (frOf_args (bw := true) (n := 0) hrep hxs ha)) hside) (frOf_rep true hrep fn.ntmps) (frOf_args hrep hxs ha)) ?_
    rintro e w' ⟨v, r, hl', G', rfl, hk, k1, k2⟩
    obtain ⟨m1, m2⟩ := hrep.after (w' := w') k1.fr
    refine ⟨v, rfl, G, m2, m1, fbA_rel k1 (fun _ => id) (fun k hk => ⟨.inr (Nat.le_trans hrep.size hk), fun hf => ?_⟩) hk k2⟩
    have := hrep.lt hf
    have hk : w.heap.size ≤ k := hk
    omega
  · cases hr
end Go.Proofs.YtppmhjaooiameaaDoor
