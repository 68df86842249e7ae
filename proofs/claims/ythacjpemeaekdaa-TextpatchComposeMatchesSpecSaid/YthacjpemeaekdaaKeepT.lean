/- A weakening that keeps a tail of the heap that is not known in full. -/
import Derived.Test.YthacjpemeaekdaaFwE
namespace Go.Proofs.Ythacjpemeaekdaa
open Go.RowKit

def inK : List Nat → Nat → Bool
  | [], _ => false
  | k :: r, n => bif Nat.beq n k then true else inK r n
/-- the objects of the tail lie at the keys and hold no name beyond them -/
def Tok (ks : List Nat) (T : List HEnt) : Prop := ∀ k ob, hget T k = some ob → inK ks k = true ∧ ∀ d, inK ks d = false → ob.scrub d = ob
inductive TlO (ks : List Nat) (T : List HEnt) : List HEnt → Prop where
  | base : TlO ks T T
  | put {b : Nat} {ob : Ob} {l : List HEnt} (h : inK ks b = false) (t : TlO ks T l) : TlO ks T (.put b ob :: l)
  | scr {b d : Nat} {l : List HEnt} (h : inK ks b = false) (h' : inK ks d = false) (t : TlO ks T l) : TlO ks T (.scr b d :: l)
inductive TlN (f : Nat → Option Ob) (T : List HEnt) : List HEnt → Prop where
  | base : TlN f T T
  | put {b : Nat} {ob : Ob} {l : List HEnt} (h : f b = some ob) (t : TlN f T l) : TlN f T (.put b ob :: l)
theorem TlO.get {ks : List Nat} {T hl : List HEnt} (hT : Tok ks T) (h : TlO ks T hl) : ∀ k ob, hget T k = some ob → hget hl k = some ob := by
  induction h with
  | base => exact fun _ _ q => q
  | @put b o l h1 _ ih =>
    intro k ob q
    have hk : k ≠ b := fun e => by rw [← e, (hT k ob q).1] at h1; cases h1
    show (bif Nat.beq k b then some o else hget l k) = some ob
    rw [beq_ne hk]
    exact ih k ob q
  | @scr b d l h1 h2 _ ih =>
    intro k ob q
    obtain ⟨q1, q2⟩ := hT k ob q
    have hk : k ≠ b := fun e => by rw [← e, q1] at h1; cases h1
    have hd : k ≠ d := fun e => by rw [← e, q1] at h2; cases h2
    show (bif Nat.beq k b || Nat.beq k d then none else (hget l k).map (Ob.scrub d)) = some ob
    rw [beq_ne hk, beq_ne hd, ih k ob q]
    exact congrArg some (q2 d h2)
theorem TlN.get {f : Nat → Option Ob} {T hl : List HEnt} (hT : ∀ k ob, hget T k = some ob → f k = some ob) (h : TlN f T hl) : ∀ k ob, hget hl k = some ob → f k = some ob := by
  induction h with
  | base => exact hT
  | @put b o l h1 _ ih =>
    intro k ob q
    unfold hget at q
    by_cases hb : k = b
    · subst hb; rw [beq_self] at q; cases q; exact h1
    · rw [beq_ne hb] at q; exact ih k ob q
theorem Wk.keepT (ks : List Nat) {T : List HEnt} (hT : Tok ks T) {n : Nat} {sl sl' : List SEnt} {hl hl' : List HEnt} (ho : TlO ks T hl) (hn : TlN (hget hl) T hl') (h1 : keepS (look sl) sl') : Wk n sl hl sl' hl' := by
  intro F G a w h
  obtain ⟨hx, hr⟩ := sub_step h.hp (hn.get (ho.get hT))
  refine ⟨G, h.df, h.sz, h.lm, fun t => ?_, hr⟩
  rcases keepS_look h1 t with e | e
  · rw [e]; exact hx.av (fun _ _ => by simp) (h.sl t)
  · rw [e]; trivial
end Go.Proofs.Ythacjpemeaekdaa
