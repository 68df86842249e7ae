/- The law TextpatchComposeMatchesSpec. -/
import Derived.Test.YthacjpemeaekdaaWxRCom
import Derived.Test.YthacjpemeaekdaaWxRepl
import Derived.Test.YthacjpemeaekdaaWxEqPat
namespace Go.Proofs.Ythacjpemeaekdaa
open Go.RowKit
set_option maxRecDepth 10000
set_option linter.unusedSimpArgs false

attribute [local irreducible] coP coC coI
theorem law_TextpatchComposeMatchesSpec : SpFact 8 (pureSp false [tPat, tPat] (fun _ => True) (fun _ => .v false [.d .bool true])) := by
  refine ⟨⟨Try.f8, rfl, rfl, rfl, pureSp_ok (env_fine (sp := [(23, sp_Compose), (24, sp_RCompose), (26, pureSp false [] (fun _ => True) (fun _ => .v false [.d .bool true])), (25, sp_Patch)]) (eq := [(24, true)])
    ⟨Compose_sp, RCompose_sp, replaced_sp, Patch_sp, True.intro⟩ ⟨eq_fault, True.intro⟩) rfl (fun _ _ => rfl) ?_⟩, pureSp_loc _ _ _ _⟩
  rintro ⟨p, q, u⟩ - -
  change List Hk at p q
  have hv : (decide (coC p q = coC p q) && decide (coI p q = coI p q)) = true := by simp
  replace hv := Lib.hid hv
  (refine fnM_of rfl rfl rfl rfl ?_; dsimp only [params, argAV, Ty.leaves, Ty.isSt])
  (repeat' (first | (with_reducible refine Cend.go ?_) | (with_reducible refine Step.mk True.intro ?_) | (with_reducible refine Step.mk ?_ ?_; focus (((try simp only [true_and, and_true, and_self, kmin, kmax, decide_eq_true_eq, decide_eq_false_iff_not, castD_self, castL_self, List.length_cons, List.length_nil, List.length_append, Int.natCast_add] at *) <;> omega))) | (with_reducible refine Step.mk ?_ ?_) | (with_reducible refine Way.t1 ?_) | (with_reducible refine Way.f1 ?_) | ((with_reducible refine Way.dec (fun _ => ?_) (fun _ => ?_)) <;> try (exfalso; omega)) | (with_reducible refine Way.nt ?_) | ((with_reducible refine Way.mk (fun _ => ?_) (fun _ => ?_)) <;> try (exfalso; rename_i hw; first | exact Bool.noConfusion ((Go.RowKit.Hid.out hv).symm.trans hw) | exact Bool.noConfusion (hw.symm.trans (Go.RowKit.Hid.out hv)))) | (with_reducible refine Drawn.mk (by kernel_rfl) ?_) | (refine Run.mk ?_)))
  all_goals try exact Ret.mk rfl
  all_goals (rename_i z; exfalso; first | exact z rfl | exact Bool.noConfusion (hv.out.symm.trans z))
end Go.Proofs.Ythacjpemeaekdaa
