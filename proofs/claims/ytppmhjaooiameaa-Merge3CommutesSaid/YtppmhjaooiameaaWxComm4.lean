/- The walk of commute.Rebase. -/
import Derived.Test.YtppmhjaooiameaaWxComm3
namespace Go.Proofs.Ytppmhjaooiameaa
open Go.RowKit
set_option maxRecDepth 10000
set_option linter.unusedSimpArgs false

theorem rb_meet {p q : List Hk} (h1 : pC p = 0) (h2 : pC q = 0) (h3 : meet (oldR p) (oldR q) = true) : rbP p q = [] ∧ rbOk p q = false ∧ rbC p q = 0 ∧ rbI p q = 0 := by
  have ok : rbOk p q = false := by unfold rbOk; rw [h3]; simp
  refine ⟨if_neg (by rw [ok]; decide), ok, ?_, ?_⟩
  · unfold rbC; rw [if_neg (by rw [h1]; decide), if_neg (by rw [h2]; decide), if_pos h3]
  · unfold rbI; rw [if_neg (by rw [h1]; decide), if_neg (by rw [h2]; decide), if_pos h3]
theorem rb_rest {p q : List Hk} (h1 : pC p = 0) (h2 : pC q = 0) (h3 : meet (oldR p) (oldR q) = false) : rbP p q = (if pC (rbR p q) = 0 then rbR p q else []) ∧ rbOk p q = decide (pC (rbR p q) = 0) ∧ rbC p q = (if pC (rbR p q) = 0 then 0 else 10) ∧ rbI p q = (if pC (rbR p q) = 0 then 0 else -1) := by
  have ok : rbOk p q = decide (pC (rbR p q) = 0) := by unfold rbOk; rw [h3, decide_eq_true h1, decide_eq_true h2]; simp
  refine ⟨?_, ok, ?_, ?_⟩
  · unfold rbP; rw [ok]; simp only [decide_eq_true_eq]
  · unfold rbC; rw [if_neg (by rw [h1]; decide), if_neg (by rw [h2]; decide), if_neg (by rw [h3]; decide)]
    by_cases h : pC (rbR p q) = 0
    · rw [if_pos h, if_neg (by rw [h]; decide)]
    · rw [if_neg h, if_pos h]
  · unfold rbI; rw [if_neg (by rw [h1]; decide), if_neg (by rw [h2]; decide), if_neg (by rw [h3]; decide)]
    by_cases h : pC (rbR p q) = 0
    · rw [if_pos h, if_neg (by rw [h]; decide)]
    · rw [if_neg h, if_pos h]
theorem rb_fault {p q : List Hk} (h : ¬ (pC p = 0 ∧ pC q = 0)) : rbP p q = [] ∧ rbOk p q = false ∧ rbC p q = cbC p q ∧ rbI p q = cbI p q := by
  have ok : rbOk p q = false := by
    cases e : rbOk p q
    · rfl
    · exact absurd ⟨(rbOk_iff.1 e).1, (rbOk_iff.1 e).2.1⟩ h
  refine ⟨if_neg (by rw [ok]; decide), ok, ?_, ?_⟩
  · unfold rbC cbC
    split
    · rfl
    · rename_i h1
      rw [if_pos fun h2 => h ⟨Classical.not_not.1 h1, h2⟩]
  · unfold rbI cbI
    split
    · rfl
    · rename_i h1
      have h2 : ¬ pC q = 0 := fun h2 => h ⟨Classical.not_not.1 h1, h2⟩
      rw [if_pos h2, if_neg h2]
theorem fault10d {c : Prop} [Decidable c] : (decide ((if c then (0 : Int) else 10) = 0) && decide ((if c then (0 : Int) else -1) = 0)) = decide c := by
  by_cases hc : c
  · rw [if_pos hc, if_pos hc, decide_eq_true hc]; rfl
  · rw [if_neg hc, if_neg hc, decide_eq_false hc]; rfl
def sp_Rebase : SpecF := pureSp false [tPat, tPat] (fun _ => True) (fun (p', q', _) => .tu [(true, [.d (.slice tHk) (rbP p' q')]), (false, [.d .bool (rbOk p' q')]), (true, [.d (.int .i64) (rbC p' q'), .d (.int .i64) (rbI p' q')])])
theorem Rebase_sp : SpFact 21 sp_Rebase := by
  refine ⟨⟨Try.f21, rfl, rfl, rfl, pureSp_okF (env_fine (sp := [(48, sp_cboth), (49, sp_OldR), (50, sp_meet), (52, sp_shift), (51, sp_Made)]) (eq := [(25, true)])
    ⟨cboth_sp, OldR_sp, meet_sp, shift_sp, Made_sp, True.intro⟩ ⟨eq_fault, True.intro⟩) rfl (fun ⟨_, _, _⟩ _ => rfl) ?_⟩, pureSp_loc _ _ _ _⟩
  rintro ⟨p, q, u⟩ - -
  change List Hk at p q
  by_cases hpq : pC p = 0 ∧ pC q = 0
  · obtain ⟨hp, hq⟩ := hpq
    have hv : (decide (cbC p q = 0) && decide (cbI p q = 0)) = true := by unfold cbC cbI; rw [hp, hq]; rfl
    obtain ⟨lp, op⟩ := pC_ok hp
    obtain ⟨lq, oq⟩ := pC_ok hq
    replace op := Lib.hid op
    replace oq := Lib.hid oq
    replace hv := Lib.hid hv
    replace hp := Lib.hid hp
    replace hq := Lib.hid hq
    (refine fnM_of rfl rfl rfl rfl ?_; dsimp only [params, argAV, Ty.leaves, Ty.isSt])
    (repeat' (first | (with_reducible refine Cend.go ?_) | (with_reducible refine Step.mk True.intro ?_) | (with_reducible refine Step.mk ?_ ?_; focus (((try simp only [true_and, and_true, and_self, kmin, kmax, decide_eq_true_eq, decide_eq_false_iff_not, castD_self, castL_self, List.length_cons, List.length_nil, List.length_append, Int.natCast_add] at *) <;> omega))) | (with_reducible refine Step.mk ?_ ?_) | (with_reducible refine Way.t1 ?_) | (with_reducible refine Way.f1 ?_) | ((with_reducible refine Way.dec (fun _ => ?_) (fun _ => ?_)) <;> try (exfalso; omega)) | (with_reducible refine Way.nt ?_) | ((with_reducible refine Way.mk (fun _ => ?_) (fun _ => ?_)) <;> try (exfalso; rename_i hw; first | exact Bool.noConfusion ((Go.RowKit.Hid.out hv).symm.trans hw) | exact Bool.noConfusion (hw.symm.trans (Go.RowKit.Hid.out hv)))) | (with_reducible refine Drawn.mk (by kernel_rfl) ?_) | (refine Run.mk ?_)))
    · exact ⟨oq.out, lq⟩
    · exact ⟨op.out, lp⟩
    · rename_i h1 h2
      obtain ⟨e1, e3, e4, e5⟩ := rb_meet hp.out hq.out h2
      refine Ret.mk ?_
      rw [e1, e3, e4, e5]
      exact ⟨⟨rfl, .frz rfl, True.intro⟩, ⟨rfl, .same, True.intro⟩, ⟨rfl, .same, .same, True.intro⟩, True.intro⟩
    · exact ⟨⟨op.out, lp⟩, ⟨oldR_ok oq.out, Nat.le_trans (Nat.le_of_eq (oldR_length q)) lq⟩, .inl rfl⟩
    · rename_i h1 h2
      obtain ⟨e1, e3, e4, e5⟩ := rb_rest hp.out hq.out h2
      refine Ret.mk ?_
      rw [e1, e3, e4, e5]
      refine ⟨⟨rfl, .same, True.intro⟩, ⟨rfl, .inl ?_, True.intro⟩, ⟨rfl, .same, .same, True.intro⟩, True.intro⟩
      exact congrArg (fun z => Lf.d .bool z) fault10d
  · have hv : (decide (cbC p q = 0) && decide (cbI p q = 0)) = false := by
      rw [decide_eq_false]
      · rfl
      · unfold cbC
        intro h
        split at h
        · contradiction
        · rename_i h'
          exact hpq ⟨Classical.not_not.1 h', h⟩
    replace hv := Lib.hid hv
    (refine fnM_of rfl rfl rfl rfl ?_; dsimp only [params, argAV, Ty.leaves, Ty.isSt])
    (repeat' (first | (with_reducible refine Cend.go ?_) | (with_reducible refine Step.mk True.intro ?_) | (with_reducible refine Step.mk ?_ ?_; focus (((try simp only [true_and, and_true, and_self, kmin, kmax, decide_eq_true_eq, decide_eq_false_iff_not, castD_self, castL_self, List.length_cons, List.length_nil, List.length_append, Int.natCast_add] at *) <;> omega))) | (with_reducible refine Step.mk ?_ ?_) | (with_reducible refine Way.t1 ?_) | (with_reducible refine Way.f1 ?_) | ((with_reducible refine Way.dec (fun _ => ?_) (fun _ => ?_)) <;> try (exfalso; omega)) | (with_reducible refine Way.nt ?_) | ((with_reducible refine Way.mk (fun _ => ?_) (fun _ => ?_)) <;> try (exfalso; rename_i hw; first | exact Bool.noConfusion ((Go.RowKit.Hid.out hv).symm.trans hw) | exact Bool.noConfusion (hw.symm.trans (Go.RowKit.Hid.out hv)))) | (with_reducible refine Drawn.mk (by kernel_rfl) ?_) | (refine Run.mk ?_)))
    obtain ⟨e1, e3, e4, e5⟩ := rb_fault hpq
    refine Ret.mk ?_
    rw [e1, e3, e4, e5]
    exact ⟨⟨rfl, .frz rfl, True.intro⟩, ⟨rfl, .same, True.intro⟩, ⟨rfl, .same, .same, True.intro⟩, True.intro⟩
end Go.Proofs.Ytppmhjaooiameaa
