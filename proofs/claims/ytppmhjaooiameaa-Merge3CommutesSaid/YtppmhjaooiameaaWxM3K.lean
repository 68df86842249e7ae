/- Law Merge3Commutes. -/
import Derived.Test.YtppmhjaooiameaaWxM3G
import Derived.Test.YtppmhjaooiameaaM3One
import Derived.Test.YtppmhjaooiameaaWxComm4
namespace Go.Proofs.Ytppmhjaooiameaa
open Go.RowKit
set_option maxRecDepth 10000
set_option linter.unusedSimpArgs false

theorem law_Merge3Commutes : SpFact 8 (pureSp false [.slice .str, .slice .str, .slice .str] (fun _ => True) (fun _ => .v false [.d .bool true])) := by
  refine ⟨⟨Try.f8, rfl, rfl, rfl, pureSp_ok (env_fine (sp := [(20, sp_Script), (21, sp_Rebase), (22, sp_Apply), (9, sp_Merge), (14, sp_Clean), (15, sp_Strings), (12, sp_opp)]) (eq := []) ⟨Script_sp, Rebase_sp, Apply_sp, Merge_sp, Clean_sp, Strings_sp, opposed_sp, True.intro⟩ True.intro) rfl (fun _ _ => rfl) ?_⟩, pureSp_loc _ _ _ _⟩
  rintro ⟨b, l, r, u⟩ - -
  change List ByteArray at b l r
  have hlaw : bC b l = 0 → bC b r = 0 → rbOk (scV b r) (scV b l) = true → mgC b l r = 0 ∧ ((apF (rbP (scV b r) (scV b l)) l).1 = 10 ∨ ((apF (rbP (scV b r) (scV b l)) l).1 = 0 ∧ (clF (mgV b l r)).1 = 0 ∧ clOk (mgV b l r) = true ∧ clL (mgV b l r) = apL (rbP (scV b r) (scV b l)) l)) := fun h1 h2 h3 => by
    obtain ⟨g1, g2⟩ := (bC_good b l).1 h1
    obtain ⟨-, g3⟩ := (bC_good b r).1 h2
    have e1 : scV b l = script b l := if_pos h1
    have e2 : scV b r = script b r := if_pos h2
    rw [e1, e2] at h3 ⊢
    obtain ⟨k1, k2⟩ := commutes_law ((vC_good b).2 g1) ((vC_good l).2 g2) ((vC_good r).2 g3) h3
    refine ⟨k1, k2.imp id fun ⟨m1, m2, m3⟩ => ?_⟩
    obtain ⟨f0, k0, l0⟩ := oneC_clean m3
    rw [m2, f0]
    exact ⟨m1, rfl, k0, l0⟩
  replace hlaw := Lib.hid hlaw
  (refine fnM_of rfl rfl rfl rfl ?_; dsimp only [params, argAV, Ty.leaves, Ty.isSt])
  (repeat' (first | (with_reducible refine Cend.go ?_) | (with_reducible refine Step.mk True.intro ?_) | (with_reducible refine Step.mk ?_ ?_; focus (((try simp only [true_and, and_true, and_self, kmin, kmax, decide_eq_true_eq, decide_eq_false_iff_not, castD_self, castL_self, List.length_cons, List.length_nil, List.length_append, Int.natCast_add] at *) <;> omega))) | (with_reducible refine Step.mk ?_ ?_) | (with_reducible refine Way.t1 ?_) | (with_reducible refine Way.f1 ?_) | ((with_reducible refine Way.dec (fun _ => ?_) (fun _ => ?_)) <;> try (exfalso; omega)) | (with_reducible refine Way.nt ?_) | (with_reducible refine Way.mk (fun _ => ?_) (fun _ => ?_)) | (with_reducible refine Drawn.mk (by kernel_rfl) ?_) | (refine Run.mk ?_)))
  all_goals first
    | exact Ret.mk rfl
    | (exfalso
       have w1 : bC b l = 0 := by assumption
       have w2 : bC b r = 0 := by assumption
       have w3 : rbOk (scV b r) (scV b l) = true := by assumption
       obtain ⟨m, w⟩ := hlaw.out w1 w2 w3
       first
         | (rename_i q; exact q m)
         | (have q : ¬ mgC b l r = 0 := by assumption
            exact q m)
         | (have z : (apF (rbP (scV b r) (scV b l)) l).1 = 0 := by assumption
            rcases w with w | ⟨a1, a2, a3, a4⟩
            · exact absurd (z.symm.trans w) (by decide)
            · first
                | (rename_i q; exact q a4)
                | (rename_i q; exact absurd (a3.symm.trans q) (by decide))
                | (rename_i q; exact q a2))
         | (have z : ¬ (apF (rbP (scV b r) (scV b l)) l).1 = 0 := by assumption
            have y : ¬ (apF (rbP (scV b r) (scV b l)) l).1 = 10 := by assumption
            rcases w with w | w
            · exact y w
            · exact z w.1))
    | skip
end Go.Proofs.Ytppmhjaooiameaa
