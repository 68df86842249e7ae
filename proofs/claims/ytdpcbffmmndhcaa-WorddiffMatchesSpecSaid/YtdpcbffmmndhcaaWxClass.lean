import Derived.Test.YtdpcbffmmndhcaaSxTab
import Derived.Test.YtdpcbffmmndhcaaWordPure
namespace Go.Proofs.Ytdpcbffmmndhcaa
open Go.RowKit
set_option maxRecDepth 10000
set_option linter.unusedSimpArgs false
def sp_class : SpecF := pureSp false [.int .u8] (fun _ => True) (fun (a', _) => .v false [.d (.int .i64) (clsV a')])
theorem class_sp : SpFact 55 sp_class := by
  refine ⟨⟨Try.f55, rfl, rfl, rfl, pureSp_ok (env_fine (sp := []) (eq := []) True.intro True.intro) rfl (fun ⟨_, _⟩ _ => rfl) ?_⟩, pureSp_loc _ _ _ _⟩
  rintro ⟨c, u⟩ - -
  refine fnM_of rfl rfl rfl rfl ?_
  (repeat' (first | (with_reducible refine Step.mk True.intro ?_) | (with_reducible refine Step.mk ?_ ?_; focus (((try simp only [true_and, and_true, and_self, kmin, kmax, decide_eq_true_eq, decide_eq_false_iff_not, castD_self, castL_self, List.length_cons, List.length_nil, List.length_append, Int.natCast_add] at *) <;> omega))) | (with_reducible refine Step.mk ?_ ?_) | (with_reducible refine Way.t1 ?_) | (with_reducible refine Way.f1 ?_) | ((with_reducible refine Way.dec (fun _ => ?_) (fun _ => ?_)) <;> try (exfalso; omega)) | (with_reducible refine Way.nt ?_) | (with_reducible refine Way.mk (fun _ => ?_) (fun _ => ?_)) | (with_reducible refine Drawn.mk (by kernel_rfl) ?_) | (refine Run.mk ?_)))
  all_goals (refine Ret.mk ?_; show AV.v false [.d (.int .i64) _] = AV.v false [.d (.int .i64) _]; unfold clsV; repeat (split <;> try omega))
  all_goals rfl
end Go.Proofs.Ytdpcbffmmndhcaa
