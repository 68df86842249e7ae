/- Law UnifiedExact. -/
import Derived.Test.YtppmhjaooiameaaDoorWxUniF
import Derived.Test.YtppmhjaooiameaaDoorWxUniS
namespace Go.Proofs.YtppmhjaooiameaaDoor
open Go.RowKit
set_option maxRecDepth 20000
set_option linter.unusedSimpArgs false
attribute [local irreducible] apF apL fuC fuT fuL
theorem law_UnifiedExact : SpFact 4 (pureSp false [.slice .str, tPat, .int .i64] (fun _ => True) (fun _ => .v false [.d .bool true])) := by
  refine ⟨⟨Tryd.f4, rfl, rfl, rfl, pureSp_ok (env_fine (sp := [(14, sp_Apply), (9, sp_Fuzzy), (11, sp_Strings), (13, sp_shown)]) (eq := []) ⟨Apply_sp, Fuzzy_sp, Strings_sp, shown_sp, True.intro⟩ True.intro) rfl (fun _ _ => rfl) ?_⟩, pureSp_loc _ _ _ _⟩
  rintro ⟨t, p, r, u⟩ - -
  change List Hk at p
  change List ByteArray at t
  change Int at r
  by_cases hc : (apF p t).1 = 0 ∧ 0 ≤ r ∧ r ≤ 120
  · obtain ⟨h1, h2, h3⟩ := hc
    obtain ⟨e1, e2, e3⟩ := exact_law h1 h2 h3
    have e1' : (fuC t p r).1 = 0 := by rw [e1]
    have e3' : (fuL t p r).length = p.length := by rw [e3]; exact List.length_replicate
    have e4 : ∀ k, (fuL t p r).getD k 0 = 0 := fun k => by
      rw [e3]
      by_cases h : k < p.length
      · rw [List.getD_eq_getElem?_getD, List.getElem?_replicate_of_lt h]; rfl
      · rw [List.getD_eq_getElem?_getD, List.getElem?_eq_none (by rw [List.length_replicate]; omega)]; rfl
    have hpl : p.length ≤ 130 := (pC_ok (apF_good h1).1).1
    have hv := Lib.hid h1
    replace e2 := Lib.hid e2
    replace e4 := Lib.hid e4
    replace e1 := Lib.hid e1
    replace e3 := Lib.hid e3
    (refine fnM_of rfl rfl rfl rfl ?_; dsimp only [params, argAV, Ty.leaves, Ty.isSt])
    (repeat' (first | (with_reducible refine Cend.go ?_) | (with_reducible refine Step.mk True.intro ?_) | (with_reducible refine Step.mk ?_ ?_; focus (((try simp only [true_and, and_true, and_self, kmin, kmax, decide_eq_true_eq, decide_eq_false_iff_not, castD_self, castL_self, List.length_cons, List.length_nil, List.length_append, Int.natCast_add] at *) <;> omega))) | (with_reducible refine Step.mk ?_ ?_) | (with_reducible refine Way.t1 ?_) | (with_reducible refine Way.f1 ?_) | ((with_reducible refine Way.dec (fun zz => ?_) (fun zz => ?_)) <;> (try simp only [castD_self, castL_self] at zz) <;> try (exfalso; first | omega | contradiction)) | (with_reducible refine Way.nt ?_) | ((with_reducible refine Way.mk (fun _ => ?_) (fun _ => ?_)) <;> try (exfalso; rename_i hw; first | exact Bool.noConfusion ((Go.RowKit.Hid.out hv).symm.trans hw) | exact Bool.noConfusion (hw.symm.trans (Go.RowKit.Hid.out hv)))) | (with_reducible refine Drawn.mk (by kernel_rfl) ?_) | (refine Run.mk ?_)))
    · refine loop_by (X := Nat) (fun x => [.put 10 (.v false [.d (.slice (.int .i64)) (fuL t p r)]), .put 12 (.v false [.d (.int .i64) (x : Int)])]) (fun _ => []) (fun x => x ≤ (fuL t p r).length) (fun x => (fuL t p r).length - x) 0 (Nat.zero_le _) ?_ ?_
      · (refine Wk.keep ?_ ?_ <;> repeat' (first | exact True.intro | refine And.intro rfl ?_ | refine And.intro (congrArg (fun z : Int => AV.v false [Lf.d (.int .i64) z]) (by first | omega | (simp only [Int.natCast_add, List.length_cons, List.length_append, List.length_nil]; omega))) ?_ | refine And.intro ?_ ?_))
      intro x hx
      (try dsimp only)
      by_cases hxt : x < (fuL t p r).length
      · have hz : (fuL t p r).getD ((x : Int)).toNat (Ty.int .i64).dflt = 0 := by rw [Int.toNat_natCast]; exact e4.out x
        (repeat' (first | (with_reducible refine Cend.go ?_) | (with_reducible refine Step.mk True.intro ?_) | (with_reducible refine Step.mk ?_ ?_; focus (((try simp only [true_and, and_true, and_self, kmin, kmax, decide_eq_true_eq, decide_eq_false_iff_not, castD_self, castL_self, List.length_cons, List.length_nil, List.length_append, Int.natCast_add] at *) <;> omega))) | (with_reducible refine Step.mk ?_ ?_) | (with_reducible refine Way.t1 ?_) | (with_reducible refine Way.f1 ?_) | ((with_reducible refine Way.dec (fun _ => ?_) (fun _ => ?_)) <;> try (exfalso; omega)) | (with_reducible refine Way.nt ?_) | (with_reducible refine Way.mk (fun _ => ?_) (fun _ => ?_)) | (with_reducible refine Drawn.mk (by kernel_rfl) ?_) | (refine Run.mk ?_)))
        refine Back.by (x + 1) ?_ ?_ ?_
        · (refine Wk.keep ?_ ?_ <;> repeat' (first | exact True.intro | refine And.intro rfl ?_ | refine And.intro (congrArg (fun z : Int => AV.v false [Lf.d (.int .i64) z]) (by first | omega | (simp only [Int.natCast_add, List.length_cons, List.length_append, List.length_nil]; omega))) ?_ | refine And.intro ?_ ?_))
        · exact hxt
        · show (fuL t p r).length - (x + 1) < (fuL t p r).length - x; omega
      · (repeat' (first | (with_reducible refine Cend.go ?_) | (with_reducible refine Step.mk True.intro ?_) | (with_reducible refine Step.mk ?_ ?_; focus (((try simp only [true_and, and_true, and_self, kmin, kmax, decide_eq_true_eq, decide_eq_false_iff_not, castD_self, castL_self, List.length_cons, List.length_nil, List.length_append, Int.natCast_add] at *) <;> omega))) | (with_reducible refine Step.mk ?_ ?_) | (with_reducible refine Way.t1 ?_) | (with_reducible refine Way.f1 ?_) | ((with_reducible refine Way.dec (fun _ => ?_) (fun _ => ?_)) <;> try (exfalso; omega)) | (with_reducible refine Way.nt ?_) | (with_reducible refine Way.mk (fun _ => ?_) (fun _ => ?_)) | (with_reducible refine Drawn.mk (by kernel_rfl) ?_) | (refine Run.mk ?_)))
        exact Ret.mk rfl
    all_goals first
      | exact absurd e2.out.symm zz
      | skip
  · have hv := Lib.hid hc
    (refine fnM_of rfl rfl rfl rfl ?_; dsimp only [params, argAV, Ty.leaves, Ty.isSt])
    (repeat' (first | (with_reducible refine Cend.go ?_) | (with_reducible refine Step.mk True.intro ?_) | (with_reducible refine Step.mk ?_ ?_; focus (((try simp only [true_and, and_true, and_self, kmin, kmax, decide_eq_true_eq, decide_eq_false_iff_not, castD_self, castL_self, List.length_cons, List.length_nil, List.length_append, Int.natCast_add] at *) <;> omega))) | (with_reducible refine Step.mk ?_ ?_) | (with_reducible refine Way.t1 ?_) | (with_reducible refine Way.f1 ?_) | ((with_reducible refine Way.dec (fun zz => ?_) (fun zz => ?_)) <;> (try simp only [castD_self, castL_self] at zz) <;> try (exfalso; first | omega | contradiction)) | (with_reducible refine Way.nt ?_) | ((with_reducible refine Way.mk (fun _ => ?_) (fun _ => ?_)) <;> try (exfalso; rename_i hw; first | exact Bool.noConfusion ((Go.RowKit.Hid.out hv).symm.trans hw) | exact Bool.noConfusion (hw.symm.trans (Go.RowKit.Hid.out hv)))) | (with_reducible refine Drawn.mk (by kernel_rfl) ?_) | (refine Run.mk ?_)))
    all_goals first
      | exact Ret.mk rfl
      | skip
end Go.Proofs.YtppmhjaooiameaaDoor
