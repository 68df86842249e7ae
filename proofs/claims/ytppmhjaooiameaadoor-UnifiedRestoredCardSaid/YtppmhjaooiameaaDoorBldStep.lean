/- A step that changes one object in place, its name kept (the blocks under it may be others than before). -/
import Derived.Test.YtppmhjaooiameaaDoorFwE
namespace Go.Proofs.YtppmhjaooiameaaDoor
open Go.RowKit

theorem same_step {F : Fr} {hp : Nat → Option Ob} {G : Gh} {w w' : World} (h : RepH F hp G w) (b : Nat) (o0 : Ob) (hb : hp b = some o0) (Fo : Nat → Prop) (ob : Ob)
    (hold : ∀ k, Fo k → k < w.heap.size → G.f b k) (hlt : ∀ k, Fo k → k < w'.heap.size) (ho : Only (fun k => G.f b k) w w')
    (hs : ∀ A' G', G'.r b = G.r b → (∀ k, G'.f b k ↔ Fo k) → Sat w' G' A' b ob) :
    ∃ G', Ext (Foot hp G) (Okay F hp G) G w (Okay F (upd hp b (some ob)) G') G' w' [] ∧ RepH F (upd hp b (some ob)) G' w' := by
  let G' : Gh := ⟨G.r, upd G.f b Fo⟩
  have hfd : ∀ k, G'.f b k ↔ Fo k := fun k => by show upd G.f b _ b k ↔ _; rw [upd_same]
  have hfo : ∀ c, c ≠ b → ∀ k, G'.f c k ↔ G.f c k := fun c hc k => by show upd G.f b _ c k ↔ _; rw [upd_ne _ _ hc]
  have hother : ∀ c oc, c ≠ b → upd hp b (some ob) c = some oc → hp c = some oc := fun c oc hc hh => by rwa [upd_ne _ _ hc] at hh
  have hfoot : ∀ k, k < w.heap.size → Foot (upd hp b (some ob)) G' k → Foot hp G k := by
    rintro k hk ⟨c, oc, h1, h2⟩
    by_cases hc : c = b
    · subst hc
      exact ⟨c, o0, hb, hold k ((hfd k).1 h2) hk⟩
    · exact ⟨c, oc, hother c oc hc h1, (hfo c hc k).1 h2⟩
  have hon : Only (Foot hp G) w w' := ⟨ho.os, ho.tape, ho.output, ho.size, fun k hk hn => ho.block k hk (fun q => hn ⟨b, o0, hb, q⟩)⟩
  have hx : Ext (Foot hp G) (Okay F hp G) G w (Okay F (upd hp b (some ob)) G') G' w' [] :=
    ⟨hon, fun k hk ⟨h1, h2⟩ => ⟨h1, fun h3 => h2 (hfoot k hk h3)⟩, Okay.apart, fun _ _ => rfl⟩
  refine ⟨G', hx, ⟨?_, ?_, ?_, ?_, h.zs, h.tb⟩⟩
  · intro c oc hc'
    by_cases hc : c = b
    · subst hc
      rw [upd_same] at hc'
      cases hc'
      exact hs _ G' rfl hfd
    · have q1 := hother c oc hc hc'
      exact (h.sat c oc q1).ext hx (by simp) (by simp) (fun k hk => ho.block k (h.bd c oc q1 k hk).1 (fun r2 => h.dj c b oc o0 hc q1 hb k hk r2)) (hfo c hc)
  · have one : ∀ c oc, c ≠ b → upd hp b (some ob) c = some oc → ∀ k, G'.f c k → ¬ G'.f b k := by
      intro c oc hc h1 k k1 k2
      have q1 := hother c oc hc h1
      have k1' := (hfo c hc k).1 k1
      exact h.dj c b oc o0 hc q1 hb k k1' (hold k ((hfd k).1 k2) (h.bd c oc q1 k k1').1)
    intro c1 c2 o1 o2 hne h1 h2 k k1 k2
    by_cases e1 : c1 = b
    · subst e1
      exact one c2 o2 (Ne.symm hne) h2 k k2 k1
    · by_cases e2 : c2 = b
      · subst e2
        exact one c1 o1 hne h1 k k1 k2
      · exact h.dj c1 c2 o1 o2 hne (hother c1 o1 e1 h1) (hother c2 o2 e2 h2) k ((hfo c1 e1 k).1 k1) ((hfo c2 e2 k).1 k2)
  · intro c oc hc' k hk
    by_cases hc : c = b
    · subst hc
      have q := (hfd k).1 hk
      refine ⟨hlt k q, ?_⟩
      rcases Nat.lt_or_ge k w.heap.size with hl | hl
      · exact (h.bd c o0 hb k (hold k q hl)).2
      · exact .inr (Nat.le_trans h.size hl)
    · have := h.bd c oc (hother c oc hc hc') k ((hfo c hc k).1 hk)
      exact ⟨Nat.lt_of_lt_of_le this.1 ho.size, this.2⟩
  · exact ⟨hon.os.trans h.fr.os, hon.tape.trans h.fr.tape, hon.output.trans h.fr.output, Nat.le_trans h.fr.size hon.size, fun k hk hn => by
      refine (hon.block k (Nat.lt_of_lt_of_le hk h.fr.size) ?_).trans (h.fr.block k hk hn)
      intro hf
      rcases h.at hf with q | q
      · exact hn q
      · omega⟩
end Go.Proofs.YtppmhjaooiameaaDoor
