/- The walk of exchanged. -/
import Derived.Test.YthacjpemeaekdaaWxComm3
namespace Go.Proofs.Ythacjpemeaekdaa
open Go.RowKit
set_option maxRecDepth 10000
set_option linter.unusedSimpArgs false

theorem exc1 : cmC [(0, [], [⟨#[97]⟩])] [(5, [⟨#[120]⟩], [])] = 0 := by decide +kernel
theorem exc2 : cmOk [(0, [], [⟨#[97]⟩])] [(5, [⟨#[120]⟩], [])] = true := by decide +kernel
theorem exc3 : cmA [(0, [], [⟨#[97]⟩])] [(5, [⟨#[120]⟩], [])] = [(4, [⟨#[120]⟩], [])] := by decide +kernel
theorem exc4 : cmB [(0, [], [⟨#[97]⟩])] [(5, [⟨#[120]⟩], [])] = [(0, [], [⟨#[97]⟩])] := by decide +kernel
theorem exchanged_sp : SpFact 32 (pureSp false [] (fun _ => True) (fun _ => .v false [.d .bool true])) := by
  refine ⟨⟨Try.f32, rfl, rfl, rfl, pureSp_ok (env1_fine (sp := [(50, sp_mkHunk), (31, sp_Commute), (25, sp_Patch)]) (eq := []) (inl := []) (cl := [6, 10, 25])
    ⟨mkHunk_sp, Commute_sp, Patch_sp, True.intro⟩ True.intro True.intro) rfl (fun _ _ => rfl) ?_⟩, pureSp_loc _ _ _ _⟩
  rintro u - -
  (refine fnM_of rfl rfl rfl rfl ?_; dsimp only [params, argAV, Ty.leaves, Ty.isSt])
  (repeat' (first | (with_reducible refine Step.mk True.intro ?_) | (with_reducible refine Step.mk ?_ ?_; focus (((try simp only [true_and, and_true, and_self, kmin, kmax, decide_eq_true_eq, decide_eq_false_iff_not, castD_self, castL_self, List.length_cons, List.length_nil, List.length_append, Int.natCast_add] at *) <;> omega))) | (with_reducible refine Step.mk ?_ ?_) | (with_reducible refine Way.t1 ?_) | (with_reducible refine Way.f1 ?_) | ((with_reducible refine Way.dec (fun _ => ?_) (fun _ => ?_)) <;> try (exfalso; omega)) | (with_reducible refine Way.nt ?_) | (with_reducible refine Way.mk (fun _ => ?_) (fun _ => ?_)) | (with_reducible refine Drawn.mk (by kernel_rfl) ?_) | (refine Run.mk ?_)))
  · refine Ret.mk (congrArg (fun b => AV.v false [.d .bool b]) (decide_eq_true ?_))
    exact exc4
  · rename_i h1 h2 h3
    exact absurd exc3 h3
  · rename_i h1 h2
    exact absurd (exc2.symm.trans h2) (by decide)
  · rename_i h
    exact absurd exc1 h
def spTrue : SpecF := pureSp false [] (fun _ => True) (fun _ => .v false [.d .bool true])
end Go.Proofs.Ythacjpemeaekdaa
