/- The walk of pair, and the laws of lines. -/
import Derived.Test.YtehdgnnelabajaaLnCut
import Derived.Test.YtehdgnnelabajaaWxJoin
import Derived.Test.YtehdgnnelabajaaWxEq
namespace Go.Proofs.Ytehdgnnelabajaa
open Go.RowKit
set_option maxRecDepth 10000
set_option linter.unusedSimpArgs false

theorem pr1 : sC ⟨#[97, 10, 98]⟩ = 0 := by decide +kernel
theorem pr2 : jC [⟨#[97]⟩, ⟨#[98]⟩] = 0 := by decide +kernel
theorem pr3 : sL ⟨#[97, 10, 98]⟩ = [⟨#[97]⟩, ⟨#[98]⟩] := by decide +kernel
theorem pr4 : jS [⟨#[97]⟩, ⟨#[98]⟩] = ⟨#[97, 10, 98, 10]⟩ := by decide +kernel
def sp_pair : SpecF := pureSp false [] (fun _ => True) (fun _ => .v false [.d .bool true])
theorem pair_sp : SpFact 18 sp_pair := by
  refine ⟨⟨Try.f18, rfl, rfl, rfl, pureSp_ok (env1_fine (sp := [(11, sp_Split), (13, sp_Join), (17, sp_Strings)]) (eq := []) (inl := []) (cl := [10, 24])
    ⟨Split_sp, Join_sp, Strings_sp, True.intro⟩ True.intro True.intro) rfl (fun _ _ => rfl) ?_⟩, pureSp_loc _ _ _ _⟩
  rintro u - -
  (refine fnM_of rfl rfl rfl rfl ?_; dsimp only [params, argAV, Ty.leaves, Ty.isSt])
  (repeat' (first | (with_reducible refine Step.mk True.intro ?_) | (with_reducible refine Step.mk ?_ ?_; focus (((try simp only [true_and, and_true, and_self, kmin, kmax, decide_eq_true_eq, decide_eq_false_iff_not, castD_self, castL_self, List.length_cons, List.length_nil, List.length_append, Int.natCast_add] at *) <;> omega))) | (with_reducible refine Step.mk ?_ ?_) | (with_reducible refine Way.t1 ?_) | (with_reducible refine Way.f1 ?_) | ((with_reducible refine Way.dec (fun _ => ?_) (fun _ => ?_)) <;> try (exfalso; omega)) | (with_reducible refine Way.nt ?_) | (with_reducible refine Way.mk (fun _ => ?_) (fun _ => ?_)) | (with_reducible refine Drawn.mk (by kernel_rfl) ?_) | (refine Run.mk ?_)))
  · refine Ret.mk (congrArg (fun b => AV.v false [.d .bool b]) (decide_eq_true ?_))
    exact pr4
  · rename_i h
    exact absurd pr3 h
  · rename_i h
    exact absurd pr2 h
  · rename_i h
    exact absurd pr1 h

def sp_lawL1 : SpecF := pureSp false [.slice .str] (fun _ => True) (fun _ => .v false [.d .bool true])
theorem law_LinesRestored : SpFact 4 sp_lawL1 := by
  refine ⟨⟨Try.f4, rfl, rfl, rfl, pureSp_ok (env1_fine (sp := [(11, sp_Split), (13, sp_Join), (17, sp_Strings), (18, sp_pair)]) (eq := []) (inl := []) (cl := [])
    ⟨Split_sp, Join_sp, Strings_sp, pair_sp, True.intro⟩ True.intro True.intro) rfl (fun _ _ => rfl) ?_⟩, pureSp_loc _ _ _ _⟩
  rintro ⟨l, u⟩ - -
  change List ByteArray at l
  have e1 : jC l = 0 → sC (jS l) = 0 ∧ sL (jS l) = l := split_join
  replace e1 := Lib.hid e1
  (refine fnM_of rfl rfl rfl rfl ?_; dsimp only [params, argAV, Ty.leaves, Ty.isSt])
  (repeat' (first | (with_reducible refine Step.mk True.intro ?_) | (with_reducible refine Step.mk ?_ ?_; focus (((try simp only [true_and, and_true, and_self, kmin, kmax, decide_eq_true_eq, decide_eq_false_iff_not, castD_self, castL_self, List.length_cons, List.length_nil, List.length_append, Int.natCast_add] at *) <;> omega))) | (with_reducible refine Step.mk ?_ ?_) | (with_reducible refine Way.t1 ?_) | (with_reducible refine Way.f1 ?_) | ((with_reducible refine Way.dec (fun _ => ?_) (fun _ => ?_)) <;> try (exfalso; omega)) | (with_reducible refine Way.nt ?_) | (with_reducible refine Way.mk (fun _ => ?_) (fun _ => ?_)) | (with_reducible refine Drawn.mk (by kernel_rfl) ?_) | (refine Run.mk ?_)))
  · exact Ret.mk rfl
  · rename_i h1 h2 h3
    exact absurd (e1.out h1).2 h3
  · rename_i h1 h2
    exact absurd (e1.out h1).1 h2
  · exact Ret.mk rfl

end Go.Proofs.Ytehdgnnelabajaa
