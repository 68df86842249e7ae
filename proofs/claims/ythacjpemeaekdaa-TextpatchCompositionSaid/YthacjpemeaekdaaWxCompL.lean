/- The law of composition. -/
import Derived.Test.YthacjpemeaekdaaWxComp
import Derived.Test.YthacjpemeaekdaaWxRepl
import Derived.Test.YthacjpemeaekdaaWxSlEq
namespace Go.Proofs.Ythacjpemeaekdaa
open Go.RowKit
set_option maxRecDepth 10000
set_option linter.unusedSimpArgs false

theorem law_TextpatchComposition : SpFact 9 (pureSp false [tPat, tPat, .slice .str] (fun _ => True) (fun _ => .v false [.d .bool true])) := by
  refine ⟨⟨Try.f9, rfl, rfl, rfl, pureSp_ok (env_fine (sp := [(27, sp_Apply), (23, sp_Compose), (26, pureSp false [] (fun _ => True) (fun _ => .v false [.d .bool true])), (19, sp_Strings)]) (eq := [])
    ⟨Apply_sp, Compose_sp, replaced_sp, Strings_sp, True.intro⟩ True.intro) rfl (fun _ _ => rfl) ?_⟩, pureSp_loc _ _ _ _⟩
  rintro ⟨p, q, t, u⟩ - -
  change List Hk at p q
  change List ByteArray at t
  have h1 := @co_effect p q t
  have h2 := @co_apply p q t
  replace h1 := Lib.hid h1
  replace h2 := Lib.hid h2
  (refine fnM_of rfl rfl rfl rfl ?_; dsimp only [params, argAV, Ty.leaves, Ty.isSt])
  (repeat' (first | (with_reducible refine Step.mk True.intro ?_) | (with_reducible refine Step.mk ?_ ?_; focus (((try simp only [true_and, and_true, and_self, kmin, kmax, decide_eq_true_eq, decide_eq_false_iff_not, castD_self, castL_self, List.length_cons, List.length_nil, List.length_append, Int.natCast_add] at *) <;> omega))) | (with_reducible refine Step.mk ?_ ?_) | (with_reducible refine Way.t1 ?_) | (with_reducible refine Way.f1 ?_) | ((with_reducible refine Way.dec (fun _ => ?_) (fun _ => ?_)) <;> try (exfalso; omega)) | (with_reducible refine Way.nt ?_) | (with_reducible refine Way.mk (fun _ => ?_) (fun _ => ?_)) | (with_reducible refine Drawn.mk (by kernel_rfl) ?_) | (refine Run.mk ?_)))
  all_goals try exact Ret.mk rfl
  · rename_i a1 a2 a3 a4 a5
    exact absurd (h2.out a1 a2 a3).2 a5
  · rename_i a1 a2 a3 a4
    exact absurd (h2.out a1 a2 a3).1 a4
  · rename_i a1 a2 a3 a4
    rcases (h1.out a1 a2).1 with e | e
    · exact absurd e a3
    · exact absurd e a4
end Go.Proofs.Ythacjpemeaekdaa
