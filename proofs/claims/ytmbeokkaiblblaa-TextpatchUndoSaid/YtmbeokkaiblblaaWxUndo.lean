/- The walk of the law of undoing. -/
import Derived.Test.YtmbeokkaiblblaaUndoPure
import Derived.Test.YtmbeokkaiblblaaWxRepl
namespace Go.Proofs.Ytmbeokkaiblblaa
open Go.RowKit
set_option maxRecDepth 10000
set_option linter.unusedSimpArgs false

theorem law_TextpatchUndo : SpFact 4 (pureSp false [tPat, .slice .str] (fun _ => True) (fun _ => .v false [.d .bool true])) := by
  refine ⟨⟨Try.f4, rfl, rfl, rfl, pureSp_ok (env_fine (sp := [(13, sp_Apply), (15, sp_Invert), (21, pureSp false [] (fun _ => True) (fun _ => .v false [.d .bool true])), (19, sp_Strings)]) (eq := [])
    ⟨Apply_sp, Invert_sp, replaced_sp, Strings_sp, True.intro⟩ True.intro) rfl (fun _ _ => rfl) ?_⟩, pureSp_loc _ _ _ _⟩
  rintro ⟨p, t, u⟩ - -
  change List Hk at p
  change List ByteArray at t
  have hg := @undo_law p t
  replace hg := Lib.hid hg
  (refine fnM_of rfl rfl rfl rfl ?_; dsimp only [params, argAV, Ty.leaves, Ty.isSt])
  (repeat' (first | (with_reducible refine Step.mk True.intro ?_) | (with_reducible refine Step.mk ?_ ?_; focus (((try simp only [true_and, and_true, and_self, kmin, kmax, decide_eq_true_eq, decide_eq_false_iff_not, castD_self, castL_self, List.length_cons, List.length_nil, List.length_append, Int.natCast_add] at *) <;> omega))) | (with_reducible refine Step.mk ?_ ?_) | (with_reducible refine Way.t1 ?_) | (with_reducible refine Way.f1 ?_) | ((with_reducible refine Way.dec (fun _ => ?_) (fun _ => ?_)) <;> try (exfalso; omega)) | (with_reducible refine Way.nt ?_) | (with_reducible refine Way.mk (fun _ => ?_) (fun _ => ?_)) | (with_reducible refine Drawn.mk (by kernel_rfl) ?_) | (refine Run.mk ?_)))
  · exact Ret.mk rfl
  · rename_i h1 h2 h3 h4
    exact absurd (hg.out h1 h2).2 h4
  · rename_i h1 h2 h3
    exact absurd (hg.out h1 h2).1 h3
  · exact Ret.mk rfl
  · exact Ret.mk rfl
end Go.Proofs.Ytmbeokkaiblblaa
