/- The law of the compositions of exchanged patches. -/
import Derived.Test.YthacjpemeaekdaaWxComp
import Derived.Test.YthacjpemeaekdaaWxExch
import Derived.Test.YthacjpemeaekdaaWxEqPat
import Derived.Test.YthacjpemeaekdaaComMix
namespace Go.Proofs.Ythacjpemeaekdaa
open Go.RowKit
set_option maxRecDepth 10000
set_option linter.unusedSimpArgs false

theorem law_CommuteComposes : SpFact 11 (pureSp false [tPat, tPat] (fun _ => True) (fun _ => .v false [.d .bool true])) := by
  refine ⟨⟨Try.f11, rfl, rfl, rfl, pureSp_ok (env_fine (sp := [(31, sp_Commute), (23, sp_Compose), (32, spTrue), (25, sp_Patch)]) (eq := [(24, true)])
    ⟨Commute_sp, Compose_sp, exchanged_sp, Patch_sp, True.intro⟩ ⟨eq_fault, True.intro⟩) rfl (fun _ _ => rfl) ?_⟩, pureSp_loc _ _ _ _⟩
  rintro ⟨p, q, u⟩ - -
  change List Hk at p q
  have hg := @co_comm p q
  replace hg := Lib.hid hg
  (refine fnM_of rfl rfl rfl rfl ?_; dsimp only [params, argAV, Ty.leaves, Ty.isSt])
  (repeat' (first | (with_reducible refine Step.mk True.intro ?_) | (with_reducible refine Step.mk ?_ ?_; focus (((try simp only [true_and, and_true, and_self, kmin, kmax, decide_eq_true_eq, decide_eq_false_iff_not, castD_self, castL_self, List.length_cons, List.length_nil, List.length_append, Int.natCast_add] at *) <;> omega))) | (with_reducible refine Step.mk ?_ ?_) | (with_reducible refine Way.t1 ?_) | (with_reducible refine Way.f1 ?_) | ((with_reducible refine Way.dec (fun _ => ?_) (fun _ => ?_)) <;> try (exfalso; omega)) | (with_reducible refine Way.nt ?_) | (with_reducible refine Way.mk (fun _ => ?_) (fun _ => ?_)) | (with_reducible refine Drawn.mk (by kernel_rfl) ?_) | (refine Run.mk ?_)))
  all_goals try exact Ret.mk rfl
  · rename_i a1 a2 a3 a4
    exact absurd (hg.out a2).2.2 a4
  · rename_i a1 a2 a3
    have b : (decide (coC p q = coC (cmA p q) (cmB p q)) && decide (coI p q = coI (cmA p q) (cmB p q))) = false := a3
    rw [decide_eq_true (hg.out a2).1, decide_eq_true (hg.out a2).2.1] at b
    cases b
end Go.Proofs.Ythacjpemeaekdaa
