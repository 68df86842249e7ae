/- The walks of commute.Commute and commute.Rebase. -/
import Derived.Test.YthacjpemeaekdaaWxComm2
namespace Go.Proofs.Ythacjpemeaekdaa
open Go.RowKit
set_option maxRecDepth 10000
set_option linter.unusedSimpArgs false

theorem oldR_ok {p : List Hk} (h : ∀ x ∈ p, HkOk x) : ∀ r ∈ oldR p, RgOk r := by
  intro r hr
  obtain ⟨k, hk, rfl⟩ := List.mem_map.1 hr
  obtain ⟨-, -, h3, h4⟩ := h k hk
  unfold RgOk rgOld hkGrow
  dsimp only
  omega
theorem newR_ok : ∀ (p : List Hk) (g : Int), (∀ x ∈ p, HkOk x) → ∀ r ∈ newR g p, RgOk r
  | [], _, _, r, hr => by simp [newR] at hr
  | k :: p, g, h, r, hr => by
    rcases List.mem_cons.1 (show r ∈ rgNew g k :: newR (g + hkGrow k) p from hr) with rfl | hr
    · obtain ⟨-, -, h3, h4⟩ := h k (by simp)
      unfold RgOk rgNew hkGrow
      dsimp only
      omega
    · exact newR_ok p _ (fun x hx => h x (by simp [hx])) r hr
theorem made_ok (p : List Hk) : (∀ x ∈ (if pC p = 0 then p else []), HkOk x) ∧ (if pC p = 0 then p else []).length ≤ 130 := by
  split
  · rename_i h
    exact ⟨(pC_ok h).2, (pC_ok h).1⟩
  · exact ⟨fun x hx => by simp at hx, by simp⟩
theorem oldR_length (p : List Hk) : (oldR p).length = p.length := by unfold oldR; rw [List.length_map]

theorem cm_meet {p q : List Hk} (h1 : pC p = 0) (h2 : pC q = 0) (h3 : meet (newR 0 p) (oldR q) = true) : cmA p q = [] ∧ cmB p q = [] ∧ cmOk p q = false ∧ cmC p q = 0 ∧ cmI p q = 0 := by
  have ok : cmOk p q = false := by unfold cmOk; rw [h3]; simp
  refine ⟨if_neg (by rw [ok]; decide), if_neg (by rw [ok]; decide), ok, ?_, ?_⟩
  · unfold cmC; rw [if_neg (by rw [h1]; decide), if_neg (by rw [h2]; decide), if_pos h3]
  · unfold cmI; rw [if_neg (by rw [h1]; decide), if_neg (by rw [h2]; decide), if_pos h3]
theorem cm_bad {p q : List Hk} (h1 : pC p = 0) (h2 : pC q = 0) (h3 : meet (newR 0 p) (oldR q) = false) (h4 : pC (cmFirst p q) ≠ 0 ∨ pC (cmSecond p q) ≠ 0) : cmA p q = [] ∧ cmB p q = [] ∧ cmOk p q = false ∧ cmC p q = 10 ∧ cmI p q = -1 := by
  have ok : cmOk p q = false := by
    unfold cmOk
    rcases h4 with h | h <;> rw [decide_eq_false h] <;> simp
  refine ⟨if_neg (by rw [ok]; decide), if_neg (by rw [ok]; decide), ok, ?_, ?_⟩
  · unfold cmC; rw [if_neg (by rw [h1]; decide), if_neg (by rw [h2]; decide), if_neg (by rw [h3]; decide), if_pos h4]
  · unfold cmI; rw [if_neg (by rw [h1]; decide), if_neg (by rw [h2]; decide), if_neg (by rw [h3]; decide), if_pos h4]
theorem cm_good {p q : List Hk} (h1 : pC p = 0) (h2 : pC q = 0) (h3 : meet (newR 0 p) (oldR q) = false) (h4 : pC (cmFirst p q) = 0) (h5 : pC (cmSecond p q) = 0) : cmA p q = cmFirst p q ∧ cmB p q = cmSecond p q ∧ cmOk p q = true ∧ cmC p q = 0 ∧ cmI p q = 0 := by
  have ok : cmOk p q = true := cmOk_iff.2 ⟨h1, h2, h3, h4, h5⟩
  exact ⟨if_pos ok, if_pos ok, ok, (cm_code ok).1, (cm_code ok).2⟩
theorem cm_fault {p q : List Hk} (h : ¬ (pC p = 0 ∧ pC q = 0)) : cmA p q = [] ∧ cmB p q = [] ∧ cmOk p q = false ∧ cmC p q = cbC p q ∧ cmI p q = cbI p q := by
  have ok : cmOk p q = false := by
    cases e : cmOk p q
    · rfl
    · exact absurd ⟨(cmOk_iff.1 e).1, (cmOk_iff.1 e).2.1⟩ h
  refine ⟨if_neg (by rw [ok]; decide), if_neg (by rw [ok]; decide), ok, ?_, ?_⟩
  · unfold cmC cbC
    split
    · rfl
    · rename_i h1
      rw [if_pos fun h2 => h ⟨Classical.not_not.1 h1, h2⟩]
  · unfold cmI cbI
    split
    · rfl
    · rename_i h1
      have h2 : ¬ pC q = 0 := fun h2 => h ⟨Classical.not_not.1 h1, h2⟩
      rw [if_pos h2, if_neg h2]
theorem fault10 {c : Prop} [Decidable c] (h : (decide ((if c then (0 : Int) else 10) = 0) && decide ((if c then (0 : Int) else -1) = 0)) = true) : c := by
  by_cases hc : c
  · exact hc
  · rw [if_neg hc, if_neg hc] at h; exact absurd h (by decide)
theorem fault10n {c : Prop} [Decidable c] (h : (decide ((if c then (0 : Int) else 10) = 0) && decide ((if c then (0 : Int) else -1) = 0)) = false) : ¬ c := by
  intro hc
  rw [if_pos hc, if_pos hc] at h; exact absurd h (by decide)

def sp_Commute : SpecF := pureSp false [tPat, tPat] (fun _ => True) (fun (p', q', _) => .tu [(true, [.d (.slice tHk) (cmA p' q')]), (true, [.d (.slice tHk) (cmB p' q')]), (false, [.d .bool (cmOk p' q')]), (true, [.d (.int .i64) (cmC p' q'), .d (.int .i64) (cmI p' q')])])
theorem Commute_sp : SpFact 31 sp_Commute := by
  refine ⟨⟨Try.f31, rfl, rfl, rfl, pureSp_okF (env_fine (sp := [(59, sp_cboth), (60, sp_newR), (62, sp_OldR), (61, sp_meet), (63, sp_shift), (45, sp_Made)]) (eq := [(24, true)])
    ⟨cboth_sp, newR_sp, OldR_sp, meet_sp, shift_sp, Made_sp, True.intro⟩ ⟨eq_fault, True.intro⟩) rfl (fun ⟨_, _, _⟩ _ => rfl) ?_⟩, pureSp_loc _ _ _ _⟩
  rintro ⟨p, q, u⟩ - -
  change List Hk at p q
  by_cases hpq : pC p = 0 ∧ pC q = 0
  · obtain ⟨hp, hq⟩ := hpq
    have hv : (decide (cbC p q = 0) && decide (cbI p q = 0)) = true := by unfold cbC cbI; rw [hp, hq]; rfl
    obtain ⟨lp, op⟩ := pC_ok hp
    obtain ⟨lq, oq⟩ := pC_ok hq
    replace op := Lib.hid op
    replace oq := Lib.hid oq
    replace hv := Lib.hid hv
    replace hp := Lib.hid hp
    replace hq := Lib.hid hq
    (refine fnM_of rfl rfl rfl rfl ?_; dsimp only [params, argAV, Ty.leaves, Ty.isSt])
    (repeat' (first | (with_reducible refine Step.mk True.intro ?_) | (with_reducible refine Step.mk ?_ ?_; focus (((try simp only [true_and, and_true, and_self, kmin, kmax, decide_eq_true_eq, decide_eq_false_iff_not, castD_self, castL_self, List.length_cons, List.length_nil, List.length_append, Int.natCast_add] at *) <;> omega))) | (with_reducible refine Step.mk ?_ ?_) | (with_reducible refine Way.t1 ?_) | (with_reducible refine Way.f1 ?_) | ((with_reducible refine Way.dec (fun _ => ?_) (fun _ => ?_)) <;> try (exfalso; omega)) | (with_reducible refine Way.nt ?_) | ((with_reducible refine Way.mk (fun _ => ?_) (fun _ => ?_)) <;> try (exfalso; rename_i hw; first | exact Bool.noConfusion ((Go.RowKit.Hid.out hv).symm.trans hw) | exact Bool.noConfusion (hw.symm.trans (Go.RowKit.Hid.out hv)))) | (with_reducible refine Drawn.mk (by kernel_rfl) ?_) | (refine Run.mk ?_)))
    · exact ⟨op.out, lp⟩
    · exact ⟨oq.out, lq⟩
    · rename_i h1 h2
      obtain ⟨e1, e2, e3, e4, e5⟩ := cm_meet hp.out hq.out h2
      refine Ret.mk ?_
      rw [e1, e2, e3, e4, e5]
      exact ⟨⟨rfl, .frz rfl, True.intro⟩, ⟨rfl, .frz rfl, True.intro⟩, ⟨rfl, .same, True.intro⟩, ⟨rfl, .same, .same, True.intro⟩, True.intro⟩
    · exact ⟨⟨oq.out, lq⟩, ⟨newR_ok p 0 op.out, Nat.le_trans (Nat.le_of_eq (newR_length p 0)) lp⟩, .inr rfl⟩
    · exact made_ok _
    · exact ⟨⟨op.out, lp⟩, ⟨oldR_ok (made_ok _).1, Nat.le_trans (Nat.le_of_eq (oldR_length _)) (made_ok _).2⟩, .inl rfl⟩
    · rename_i h1 h2 h3 h4
      have h3 : pC (cmFirst p q) = 0 := fault10 h3
      have e : (if pC (cmFirst p q) = 0 then cmFirst p q else []) = cmFirst p q := if_pos h3
      have h4 : pC (shiftP p (oldR (if pC (cmFirst p q) = 0 then cmFirst p q else [])) 1) = 0 := fault10 h4
      rw [e] at h4
      obtain ⟨e1, e2, e3, e4, e5⟩ := cm_good hp.out hq.out h2 h3 h4
      refine Ret.mk ?_
      rw [e1, e2, e3, e4, e5]
      refine ⟨⟨rfl, .inl ?_, True.intro⟩, ⟨rfl, .inl ?_, True.intro⟩, ⟨rfl, .same, True.intro⟩, ⟨rfl, .same, .same, True.intro⟩, True.intro⟩
      · exact congrArg (fun z => Lf.d (.slice tHk) z) e
      · show Lf.d (.slice tHk) (if pC (shiftP p (oldR (if pC (cmFirst p q) = 0 then cmFirst p q else [])) 1) = 0 then shiftP p (oldR (if pC (cmFirst p q) = 0 then cmFirst p q else [])) 1 else []) = _
        rw [e, if_pos h4]
        rfl
    · rename_i h1 h2 h3 h4
      have h3 : pC (cmFirst p q) = 0 := fault10 h3
      have e : (if pC (cmFirst p q) = 0 then cmFirst p q else []) = cmFirst p q := if_pos h3
      have h4 : ¬ pC (shiftP p (oldR (if pC (cmFirst p q) = 0 then cmFirst p q else [])) 1) = 0 := fault10n h4
      rw [e] at h4
      obtain ⟨e1, e2, e3, e4, e5⟩ := cm_bad hp.out hq.out h2 (.inr h4)
      refine Ret.mk ?_
      rw [e1, e2, e3, e4, e5]
      refine ⟨⟨rfl, .frz rfl, True.intro⟩, ⟨rfl, .frz rfl, True.intro⟩, ⟨rfl, .same, True.intro⟩, ⟨rfl, .inl ?_, .inl ?_, True.intro⟩, True.intro⟩
      · show Lf.d (.int .i64) (if pC (shiftP p (oldR (if pC (cmFirst p q) = 0 then cmFirst p q else [])) 1) = 0 then (0 : Int) else 10) = _
        rw [e, if_neg h4]
      · show Lf.d (.int .i64) (if pC (shiftP p (oldR (if pC (cmFirst p q) = 0 then cmFirst p q else [])) 1) = 0 then (0 : Int) else -1) = _
        rw [e, if_neg h4]
    · rename_i h1 h2 h3
      have h3 : ¬ pC (cmFirst p q) = 0 := fault10n h3
      obtain ⟨e1, e2, e3, e4, e5⟩ := cm_bad hp.out hq.out h2 (.inl h3)
      refine Ret.mk ?_
      rw [e1, e2, e3, e4, e5]
      refine ⟨⟨rfl, .frz rfl, True.intro⟩, ⟨rfl, .frz rfl, True.intro⟩, ⟨rfl, .same, True.intro⟩, ⟨rfl, .inl ?_, .inl ?_, True.intro⟩, True.intro⟩
      · show Lf.d (.int .i64) (if pC (cmFirst p q) = 0 then (0 : Int) else 10) = _
        rw [if_neg h3]
      · show Lf.d (.int .i64) (if pC (cmFirst p q) = 0 then (0 : Int) else -1) = _
        rw [if_neg h3]
  · have hv : (decide (cbC p q = 0) && decide (cbI p q = 0)) = false := by
      rw [decide_eq_false]
      · rfl
      · unfold cbC
        intro h
        split at h
        · contradiction
        · rename_i h'
          exact hpq ⟨Classical.not_not.1 h', h⟩
    replace hv := Lib.hid hv
    (refine fnM_of rfl rfl rfl rfl ?_; dsimp only [params, argAV, Ty.leaves, Ty.isSt])
    (repeat' (first | (with_reducible refine Step.mk True.intro ?_) | (with_reducible refine Step.mk ?_ ?_; focus (((try simp only [true_and, and_true, and_self, kmin, kmax, decide_eq_true_eq, decide_eq_false_iff_not, castD_self, castL_self, List.length_cons, List.length_nil, List.length_append, Int.natCast_add] at *) <;> omega))) | (with_reducible refine Step.mk ?_ ?_) | (with_reducible refine Way.t1 ?_) | (with_reducible refine Way.f1 ?_) | ((with_reducible refine Way.dec (fun _ => ?_) (fun _ => ?_)) <;> try (exfalso; omega)) | (with_reducible refine Way.nt ?_) | ((with_reducible refine Way.mk (fun _ => ?_) (fun _ => ?_)) <;> try (exfalso; rename_i hw; first | exact Bool.noConfusion ((Go.RowKit.Hid.out hv).symm.trans hw) | exact Bool.noConfusion (hw.symm.trans (Go.RowKit.Hid.out hv)))) | (with_reducible refine Drawn.mk (by kernel_rfl) ?_) | (refine Run.mk ?_)))
    obtain ⟨e1, e2, e3, e4, e5⟩ := cm_fault hpq
    refine Ret.mk ?_
    rw [e1, e2, e3, e4, e5]
    exact ⟨⟨rfl, .frz rfl, True.intro⟩, ⟨rfl, .frz rfl, True.intro⟩, ⟨rfl, .same, True.intro⟩, ⟨rfl, .same, .same, True.intro⟩, True.intro⟩

end Go.Proofs.Ythacjpemeaekdaa
