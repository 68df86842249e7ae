/- Law UnifiedMatchesSpec. -/
import Derived.Test.YtppmhjaooiameaaDoorWxRFm2
import Derived.Test.YtppmhjaooiameaaDoorWxRFuz
import Derived.Test.YtppmhjaooiameaaDoorWxUniF
import Derived.Test.YtppmhjaooiameaaDoorWxUniY
namespace Go.Proofs.YtppmhjaooiameaaDoor
open Go.RowKit
set_option maxRecDepth 20000
set_option linter.unusedSimpArgs false

theorem refl_f (x y : Int) : (decide (x = x) && decide (y = y)) = true := by simp
attribute [local irreducible] fmS fmC fuC fuT fuL
theorem law_UnifiedMatchesSpec : SpFact 3 (pureSp false [.slice .str, tPat, .int .i64, .int .i64] (fun _ => True) (fun _ => .v false [.d .bool true])) := by
  refine ⟨⟨Tryd.f3, rfl, rfl, rfl, pureSp_ok (env_fine (sp := [(7, sp_Format), (8, sp_RFormat), (9, sp_Fuzzy), (10, sp_RFuzzy), (11, sp_Strings), (12, sp_Ints), (13, sp_shown)]) (eq := [(27, true)])
    ⟨Format_sp, RFormat_sp, Fuzzy_sp, RFuzzy_sp, Strings_sp, Ints_sp, shown_sp, True.intro⟩ ⟨eq_fault, True.intro⟩) rfl (fun _ _ => rfl) ?_⟩, pureSp_loc _ _ _ _⟩
  rintro ⟨t, p, c, r, u⟩ - -
  change List Hk at p
  change List ByteArray at t
  change Int at c r
  have hv := refl_f (fmC t p c).1 (fmC t p c).2
  have hv2 := refl_f (fuC t p r).1 (fuC t p r).2
  replace hv := Lib.hid hv
  replace hv2 := Lib.hid hv2
  (refine fnM_of rfl rfl rfl rfl ?_; dsimp only [params, argAV, Ty.leaves, Ty.isSt])
  (repeat' (first | (with_reducible refine Cend.go ?_) | (with_reducible refine Step.mk True.intro ?_) | (with_reducible refine Step.mk ?_ ?_; focus (((try simp only [true_and, and_true, and_self, kmin, kmax, decide_eq_true_eq, decide_eq_false_iff_not, castD_self, castL_self, List.length_cons, List.length_nil, List.length_append, Int.natCast_add] at *) <;> omega))) | (with_reducible refine Step.mk ?_ ?_) | (with_reducible refine Way.t1 ?_) | (with_reducible refine Way.f1 ?_) | ((with_reducible refine Way.dec (fun zz => ?_) (fun zz => ?_)) <;> (try simp only [castD_self, castL_self] at zz) <;> try (exfalso; first | omega | contradiction)) | (with_reducible refine Way.nt ?_) | ((with_reducible refine Way.mk (fun _ => ?_) (fun _ => ?_)) <;> try (exfalso; rename_i hw; first | exact Bool.noConfusion ((Go.RowKit.Hid.out hv).symm.trans hw) | exact Bool.noConfusion (hw.symm.trans (Go.RowKit.Hid.out hv)) | exact Bool.noConfusion ((Go.RowKit.Hid.out hv2).symm.trans hw) | exact Bool.noConfusion (hw.symm.trans (Go.RowKit.Hid.out hv2)) | exact Bool.noConfusion ((Go.RowKit.Hid.out hv).symm.trans hw) | exact Bool.noConfusion (hw.symm.trans (Go.RowKit.Hid.out hv)))) | (with_reducible refine Drawn.mk (by kernel_rfl) ?_) | (refine Run.mk ?_)))
  all_goals try exact Ret.mk rfl
  all_goals (rename_i z; exfalso; first | exact z rfl | exact Bool.noConfusion (hv2.out.symm.trans z) | exact Bool.noConfusion (hv.out.symm.trans z))
end Go.Proofs.YtppmhjaooiameaaDoor
