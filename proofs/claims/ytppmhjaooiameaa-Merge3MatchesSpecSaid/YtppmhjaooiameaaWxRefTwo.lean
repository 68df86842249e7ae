/- The walk of the reference's TwoFault. -/
import Derived.Test.YtppmhjaooiameaaWxRefLin
namespace Go.Proofs.Ytppmhjaooiameaa
open Go.RowKit
set_option maxRecDepth 10000
set_option linter.unusedSimpArgs false

def sp_TwoF : SpecF := pureSp true [.slice .str, .slice .str] (fun _ => True) (fun (a', b', _) => .v true [.d (.int .i64) (bC a' b'), .d (.int .i64) (bI a' b')])
theorem TwoF_sp : SpFact 31 sp_TwoF := by
  refine ⟨⟨Try.f31, rfl, rfl, rfl, pureSp_ok (env_fine (sp := [(60, sp_LFault), (32, sp_LCode), (33, sp_At)]) (eq := []) ⟨LFault_sp, LCode_sp, At_sp, True.intro⟩ True.intro) rfl (fun ⟨_, _, _⟩ _ => rfl) ?_⟩, pureSp_loc _ _ _ _⟩
  rintro ⟨a, b, u⟩ - -
  change List ByteArray at a b
  (refine fnM_of rfl rfl rfl rfl ?_; dsimp only [params, argAV, Ty.leaves, Ty.isSt])
  (repeat' (first | (with_reducible refine Cend.go ?_) | (with_reducible refine Step.mk True.intro ?_) | (with_reducible refine Step.mk ?_ ?_; focus (((try simp only [true_and, and_true, and_self, kmin, kmax, decide_eq_true_eq, decide_eq_false_iff_not, castD_self, castL_self, List.length_cons, List.length_nil, List.length_append, Int.natCast_add] at *) <;> omega))) | (with_reducible refine Step.mk ?_ ?_) | (with_reducible refine Way.t1 ?_) | (with_reducible refine Way.f1 ?_) | ((with_reducible refine Way.dec (fun _ => ?_) (fun _ => ?_)) <;> try (exfalso; omega)) | (with_reducible refine Way.nt ?_) | (with_reducible refine Way.mk (fun _ => ?_) (fun _ => ?_)) | (with_reducible refine Drawn.mk (by kernel_rfl) ?_) | (refine Run.mk ?_)))
  · rename_i h1 h2
    have h1 : vC a = 0 := h1
    have h2 : vC b = 0 := h2
    refine Ret.mk ?_
    show AV.v true [.d (.int .i64) (vC a), .d (.int .i64) (vI a)] = AV.v true [.d (.int .i64) (bC a b), .d (.int .i64) (bI a b)]
    rw [show bC a b = vC b from if_pos h1, show bI a b = 0 from (if_pos h1).trans (if_pos h2), h1, h2, vI_good a ((vC_good a).1 h1)]
  · rename_i h1 h2
    have h1 : vC a = 0 := h1
    have h2 : ¬ vC b = 0 := h2
    refine Ret.mk ?_
    rw [show bC a b = vC b from if_pos h1, show bI a b = -2 from (if_pos h1).trans (if_neg h2)]
    rfl
  · rename_i h1
    have h1 : ¬ vC a = 0 := h1
    refine Ret.mk ?_
    show AV.v true [.d (.int .i64) (vC a), .d (.int .i64) (vI a)] = AV.v true [.d (.int .i64) (bC a b), .d (.int .i64) (bI a b)]
    rw [show bC a b = vC a from if_neg h1, show bI a b = vI a from if_neg h1]
end Go.Proofs.Ytppmhjaooiameaa
