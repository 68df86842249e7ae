/- The walks of commute.Commute and commute.Rebase. -/
import Derived.Test.YtppmhjaooiameaaWxComm2
namespace Go.Proofs.Ytppmhjaooiameaa
open Go.RowKit
set_option maxRecDepth 10000
set_option linter.unusedSimpArgs false

theorem oldR_ok {p : List Hk} (h : ∀ x ∈ p, HkOk x) : ∀ r ∈ oldR p, RgOk r := by
  intro r hr
  obtain ⟨k, hk, rfl⟩ := List.mem_map.1 hr
  obtain ⟨-, -, h3, h4⟩ := h k hk
  unfold RgOk rgOld hkGrow
  dsimp only
  omega
theorem newR_ok : ∀ (p : List Hk) (g : Int), (∀ x ∈ p, HkOk x) → ∀ r ∈ newR g p, RgOk r
  | [], _, _, r, hr => by simp [newR] at hr
  | k :: p, g, h, r, hr => by
    rcases List.mem_cons.1 (show r ∈ rgNew g k :: newR (g + hkGrow k) p from hr) with rfl | hr
    · obtain ⟨-, -, h3, h4⟩ := h k (by simp)
      unfold RgOk rgNew hkGrow
      dsimp only
      omega
    · exact newR_ok p _ (fun x hx => h x (by simp [hx])) r hr
theorem made_ok (p : List Hk) : (∀ x ∈ (if pC p = 0 then p else []), HkOk x) ∧ (if pC p = 0 then p else []).length ≤ 130 := by
  split
  · rename_i h
    exact ⟨(pC_ok h).2, (pC_ok h).1⟩
  · exact ⟨fun x hx => by simp at hx, by simp⟩
theorem oldR_length (p : List Hk) : (oldR p).length = p.length := by unfold oldR; rw [List.length_map]

theorem cm_meet {p q : List Hk} (h1 : pC p = 0) (h2 : pC q = 0) (h3 : meet (newR 0 p) (oldR q) = true) : cmA p q = [] ∧ cmB p q = [] ∧ cmOk p q = false ∧ cmC p q = 0 ∧ cmI p q = 0 := by
  have ok : cmOk p q = false := by unfold cmOk; rw [h3]; simp
  refine ⟨if_neg (by rw [ok]; decide), if_neg (by rw [ok]; decide), ok, ?_, ?_⟩
  · unfold cmC; rw [if_neg (by rw [h1]; decide), if_neg (by rw [h2]; decide), if_pos h3]
  · unfold cmI; rw [if_neg (by rw [h1]; decide), if_neg (by rw [h2]; decide), if_pos h3]
theorem cm_bad {p q : List Hk} (h1 : pC p = 0) (h2 : pC q = 0) (h3 : meet (newR 0 p) (oldR q) = false) (h4 : pC (cmFirst p q) ≠ 0 ∨ pC (cmSecond p q) ≠ 0) : cmA p q = [] ∧ cmB p q = [] ∧ cmOk p q = false ∧ cmC p q = 10 ∧ cmI p q = -1 := by
  have ok : cmOk p q = false := by
    unfold cmOk
    rcases h4 with h | h <;> rw [decide_eq_false h] <;> simp
  refine ⟨if_neg (by rw [ok]; decide), if_neg (by rw [ok]; decide), ok, ?_, ?_⟩
  · unfold cmC; rw [if_neg (by rw [h1]; decide), if_neg (by rw [h2]; decide), if_neg (by rw [h3]; decide), if_pos h4]
  · unfold cmI; rw [if_neg (by rw [h1]; decide), if_neg (by rw [h2]; decide), if_neg (by rw [h3]; decide), if_pos h4]
theorem cm_good {p q : List Hk} (h1 : pC p = 0) (h2 : pC q = 0) (h3 : meet (newR 0 p) (oldR q) = false) (h4 : pC (cmFirst p q) = 0) (h5 : pC (cmSecond p q) = 0) : cmA p q = cmFirst p q ∧ cmB p q = cmSecond p q ∧ cmOk p q = true ∧ cmC p q = 0 ∧ cmI p q = 0 := by
  have ok : cmOk p q = true := cmOk_iff.2 ⟨h1, h2, h3, h4, h5⟩
  exact ⟨if_pos ok, if_pos ok, ok, (cm_code ok).1, (cm_code ok).2⟩
theorem cm_fault {p q : List Hk} (h : ¬ (pC p = 0 ∧ pC q = 0)) : cmA p q = [] ∧ cmB p q = [] ∧ cmOk p q = false ∧ cmC p q = cbC p q ∧ cmI p q = cbI p q := by
  have ok : cmOk p q = false := by
    cases e : cmOk p q
    · rfl
    · exact absurd ⟨(cmOk_iff.1 e).1, (cmOk_iff.1 e).2.1⟩ h
  refine ⟨if_neg (by rw [ok]; decide), if_neg (by rw [ok]; decide), ok, ?_, ?_⟩
  · unfold cmC cbC
    split
    · rfl
    · rename_i h1
      rw [if_pos fun h2 => h ⟨Classical.not_not.1 h1, h2⟩]
  · unfold cmI cbI
    split
    · rfl
    · rename_i h1
      have h2 : ¬ pC q = 0 := fun h2 => h ⟨Classical.not_not.1 h1, h2⟩
      rw [if_pos h2, if_neg h2]
theorem fault10 {c : Prop} [Decidable c] (h : (decide ((if c then (0 : Int) else 10) = 0) && decide ((if c then (0 : Int) else -1) = 0)) = true) : c := by
  by_cases hc : c
  · exact hc
  · rw [if_neg hc, if_neg hc] at h; exact absurd h (by decide)
theorem fault10n {c : Prop} [Decidable c] (h : (decide ((if c then (0 : Int) else 10) = 0) && decide ((if c then (0 : Int) else -1) = 0)) = false) : ¬ c := by
  intro hc
  rw [if_pos hc, if_pos hc] at h; exact absurd h (by decide)

end Go.Proofs.Ytppmhjaooiameaa
