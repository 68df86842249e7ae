/- Law Merge3OneSided. -/
import Derived.Test.YtppmhjaooiameaaWxM3G
import Derived.Test.YtppmhjaooiameaaM3One
namespace Go.Proofs.Ytppmhjaooiameaa
open Go.RowKit
set_option maxRecDepth 10000
set_option linter.unusedSimpArgs false

attribute [local irreducible] mgV mgC mgI clF clL clOk
theorem law_Merge3OneSided : SpFact 5 (pureSp false [.slice .str, .slice .str] (fun _ => True) (fun _ => .v false [.d .bool true])) := by
  refine ⟨⟨Try.f5, rfl, rfl, rfl, pureSp_ok (env_fine (sp := [(9, sp_Merge), (14, sp_Clean), (15, sp_Strings), (12, sp_opp)]) (eq := []) ⟨Merge_sp, Clean_sp, Strings_sp, opposed_sp, True.intro⟩ True.intro) rfl (fun _ _ => rfl) ?_⟩, pureSp_loc _ _ _ _⟩
  rintro ⟨b, o, u⟩ - -
  change List ByteArray at b o
  by_cases hb : vC b = 0 ∧ vC o = 0
  · have c1 : mgC b b o = 0 := mgC_good.2 ⟨hb.1, hb.1, hb.2⟩
    have c2 : mgC b o b = 0 := mgC_good.2 ⟨hb.1, hb.2, hb.1⟩
    have c3 : mgC b o o = 0 := mgC_good.2 ⟨hb.1, hb.2, hb.2⟩
    obtain ⟨f0, k0, l0⟩ := oneC_clean hb.2
    obtain ⟨f1, k1, l1⟩ : (clF (mgV b b o)).1 = 0 ∧ clOk (mgV b b o) = true ∧ clL (mgV b b o) = o := by rw [one_right hb.1 hb.2, f0]; exact ⟨rfl, k0, l0⟩
    obtain ⟨f2, k2, l2⟩ : (clF (mgV b o b)).1 = 0 ∧ clOk (mgV b o b) = true ∧ clL (mgV b o b) = o := by rw [one_left hb.1 hb.2, f0]; exact ⟨rfl, k0, l0⟩
    obtain ⟨f3, k3, l3⟩ : (clF (mgV b o o)).1 = 0 ∧ clOk (mgV b o o) = true ∧ clL (mgV b o o) = o := by rw [one_both hb.1 hb.2, f0]; exact ⟨rfl, k0, l0⟩
    clear f0 k0 l0
    have hv := Lib.hid k1
    replace l1 := Lib.hid l1
    replace l2 := Lib.hid l2
    replace l3 := Lib.hid l3
    (refine fnM_of rfl rfl rfl rfl ?_; dsimp only [params, argAV, Ty.leaves, Ty.isSt])
    (repeat' (first | (with_reducible refine Cend.go ?_) | (with_reducible refine Step.mk True.intro ?_) | (with_reducible refine Step.mk ?_ ?_; focus (((try simp only [true_and, and_true, and_self, kmin, kmax, decide_eq_true_eq, decide_eq_false_iff_not, castD_self, castL_self, List.length_cons, List.length_nil, List.length_append, Int.natCast_add] at *) <;> omega))) | (with_reducible refine Step.mk ?_ ?_) | (with_reducible refine Way.t1 ?_) | (with_reducible refine Way.f1 ?_) | ((with_reducible refine Way.dec (fun zz => ?_) (fun zz => ?_)) <;> (try simp only [castD_self, castL_self] at zz) <;> try (exfalso; first | omega | contradiction)) | (with_reducible refine Way.nt ?_) | ((with_reducible refine Way.mk (fun _ => ?_) (fun _ => ?_)) <;> try (exfalso; rename_i hw; first | exact Bool.noConfusion ((Go.RowKit.Hid.out hv).symm.trans hw) | exact Bool.noConfusion (hw.symm.trans (Go.RowKit.Hid.out hv)))) | (with_reducible refine Drawn.mk (by kernel_rfl) ?_) | (refine Run.mk ?_)))
    all_goals first
      | exact Ret.mk rfl
      | (rename_i q; exact absurd l1.out q)
      | (rename_i q; exact absurd l2.out q)
      | (rename_i q; exact absurd l3.out q)
      | (rename_i q; exact absurd (k1.symm.trans q) (by decide))
      | (rename_i q; exact absurd (k2.symm.trans q) (by decide))
      | (rename_i q; exact absurd (k3.symm.trans q) (by decide))
      | skip
  · have c1 : ¬ mgC b b o = 0 := fun z => hb ⟨(mgC_good.1 z).1, (mgC_good.1 z).2.2⟩
    have hv := Lib.hid hb
    (refine fnM_of rfl rfl rfl rfl ?_; dsimp only [params, argAV, Ty.leaves, Ty.isSt])
    (repeat' (first | (with_reducible refine Cend.go ?_) | (with_reducible refine Step.mk True.intro ?_) | (with_reducible refine Step.mk ?_ ?_; focus (((try simp only [true_and, and_true, and_self, kmin, kmax, decide_eq_true_eq, decide_eq_false_iff_not, castD_self, castL_self, List.length_cons, List.length_nil, List.length_append, Int.natCast_add] at *) <;> omega))) | (with_reducible refine Step.mk ?_ ?_) | (with_reducible refine Way.t1 ?_) | (with_reducible refine Way.f1 ?_) | ((with_reducible refine Way.dec (fun zz => ?_) (fun zz => ?_)) <;> (try simp only [castD_self, castL_self] at zz) <;> try (exfalso; first | omega | contradiction)) | (with_reducible refine Way.nt ?_) | ((with_reducible refine Way.mk (fun _ => ?_) (fun _ => ?_)) <;> try (exfalso; rename_i hw; first | exact Bool.noConfusion ((Go.RowKit.Hid.out hv).symm.trans hw) | exact Bool.noConfusion (hw.symm.trans (Go.RowKit.Hid.out hv)))) | (with_reducible refine Drawn.mk (by kernel_rfl) ?_) | (refine Run.mk ?_)))
    all_goals first
      | exact Ret.mk rfl
      | skip
end Go.Proofs.Ytppmhjaooiameaa
