/- revset.Validate, for queries that pass. -/
import Derived.Test.YtgdlbpihkodeoaaQvPure
import Derived.Test.YtgdlbpihkodeoaaWxHist
namespace Go.Proofs.Ytgdlbpihkodeoaa
open Go.RowKit
set_option maxRecDepth 20000
set_option linter.unusedSimpArgs false

def sp_QVal : SpecF := pureSp false [.st (.slice tNd)] (fun (ns', _) => QOk ns') (fun _ => .v true [.d (.int .i64) 0, .d (.int .i64) 0])
theorem QVal_sp : SpFact 55 sp_QVal := by
  refine ⟨⟨Try.f55, rfl, rfl, rfl, pureSp_ok (env_fine (sp := [(67, sp_check), (56, sp_Operands)]) (eq := []) ⟨check_sp, Operands_sp, True.intro⟩ True.intro) rfl (fun ⟨_, _⟩ _ => rfl) ?_⟩, pureSp_loc _ _ _ _⟩
  rintro ⟨ns, u⟩ - ⟨h0, h40, hok, hst⟩
  change List Nd at ns
  have h0 : 0 < ns.length := h0
  have h40 : ns.length ≤ 40 := h40
  have hst : (stkR 0 [] ns).length = 1 := hst
  (refine fnM_of rfl rfl rfl rfl ?_; dsimp only [params, argAV, Ty.leaves, Ty.isSt])
  (repeat' (first | (with_reducible refine Cend.go ?_) | (with_reducible refine Step.mk True.intro ?_) | (with_reducible refine Step.mk ?_ ?_; focus (((try simp only [true_and, and_true, and_self, kmin, kmax, decide_eq_true_eq, decide_eq_false_iff_not, castD_self, castL_self, List.length_cons, List.length_nil, List.length_append, Int.natCast_add] at *) <;> omega))) | (with_reducible refine Step.mk ?_ ?_) | (with_reducible refine Way.t1 ?_) | (with_reducible refine Way.f1 ?_) | ((with_reducible refine Way.dec (fun _ => ?_) (fun _ => ?_)) <;> try (exfalso; omega)) | (with_reducible refine Way.nt ?_) | (with_reducible refine Way.mk (fun _ => ?_) (fun _ => ?_)) | (with_reducible refine Drawn.mk (by kernel_rfl) ?_) | (refine Run.mk ?_)))
  refine loop_by (X := Nat × List Int) (fun x => [.put 1 (.v false [.p 1 0]), .put 2 (.v false [.p 2 0]), .put 3 (.v false [.o 91]), .put 19 (.v false [.d (.slice tNd) ns]), .put 20 (.v false [.d (.int .i64) (ns.length : Int)]), .put 21 (.v false [.d (.int .i64) (x.1 : Int)])])
    (fun x => [.put 2 (.box 24 [.d (.int .i64) 0, .d (.int .i64) 0]), .put 91 (.row 3 (.int .i64) x.2)]) (fun x => x.1 ≤ ns.length ∧ x.2.length ≤ x.1 ∧ okR x.1 x.2 (ns.drop x.1) ∧ (stkR x.1 x.2 (ns.drop x.1)).length = 1) (fun x => ns.length - x.1) (0, []) ⟨Nat.zero_le _, Nat.le_refl _, hok, hst⟩ ?_ ?_
  · refine Wk.trans (Wk.nilrow 3 91 3 (.int .i64) rfl) ?_
    (refine Wk.keep ?_ ?_ <;> repeat' (first | exact True.intro | refine And.intro rfl ?_ | refine And.intro (congrArg (fun z : Int => AV.v false [Lf.d (.int .i64) z]) (by first | omega | (simp only [Int.natCast_add, List.length_cons, List.length_append, List.length_nil]; omega))) ?_ | refine And.intro ?_ ?_))
  clear hok hst
  rintro ⟨k, rs⟩ ⟨hk, hl, hok, hst⟩
  dsimp only at hk hl hok hst ⊢
  by_cases hlt : k < ns.length
  · obtain ⟨hc, hn⟩ := okR_drop hlt hok
    rw [stkR_drop hlt] at hst
    have hpl := pushR_len k rs ns[k]
    have hpu : pushR k rs ns[k] = rs.take (rs.length - ary ns[k].1) ++ [(k : Int)] := rfl
    have hm := hc.many
    have ha := ary_le ns[k].1
    have hg : ns.getD ((k : Int)).toNat tNd.dflt = ns[k] := getD_of _ hlt
    rw [← hg] at hc hn hst hpl hpu hm ha
    clear hok hg
    replace hc := Lib.hid hc
    replace hn := Lib.hid hn
    replace hst := Lib.hid hst
    replace hpu := Lib.hid hpu
    (repeat' (first | (with_reducible refine Cend.go ?_) | (with_reducible refine Step.mk True.intro ?_) | (with_reducible refine Step.mk ?_ ?_; focus (((try simp only [true_and, and_true, and_self, kmin, kmax, decide_eq_true_eq, decide_eq_false_iff_not, castD_self, castL_self, List.length_cons, List.length_nil, List.length_append, Int.natCast_add] at *) <;> omega))) | (with_reducible refine Step.mk ?_ ?_) | (with_reducible refine Way.t1 ?_) | (with_reducible refine Way.f1 ?_) | ((with_reducible refine Way.dec (fun _ => ?_) (fun _ => ?_)) <;> try (exfalso; omega)) | (with_reducible refine Way.nt ?_) | (with_reducible refine Way.mk (fun _ => ?_) (fun _ => ?_)) | (with_reducible refine Drawn.mk (by kernel_rfl) ?_) | (refine Run.mk ?_)))
    · exact hc.out
    · show ((List.take (((rs.length : Int) - (ary (ns.getD ((k : Int)).toNat tNd.dflt).1 : Nat)).toNat - Int.toNat 0) rs).length + 1) * 8 ≤ 140737488355328 ∧ (List.take _ rs).length + 1 ≤ 1000000000000
      simp only [List.length_take]
      omega
    · (refine Back.by ((k + 1, pushR k rs (ns.getD ((k : Int)).toNat tNd.dflt))) ?_ ?_ ?_; focus (refine Wk.ren [(91, 45)] rfl ?_ ?_ <;> repeat' (first | exact True.intro | refine And.intro rfl ?_ | refine And.intro (congrArg (fun z : Int => AV.v false [Lf.d (.int .i64) z]) (by first | omega | (simp only [Int.natCast_add, List.length_cons, List.length_append, List.length_nil]; omega))) ?_ | refine And.intro ?_ ?_)))
      · show some (Ob.row _ (.int .i64) (List.take (((rs.length : Int) - (ary (ns.getD ((k : Int)).toNat tNd.dflt).1 : Nat)).toNat - Int.toNat 0) rs ++ [(k : Int)])) = some (Ob.row _ (.int .i64) (pushR k rs (ns.getD ((k : Int)).toNat tNd.dflt)))
        rw [hpu.out, show ((rs.length : Int) - (ary (ns.getD ((k : Int)).toNat tNd.dflt).1 : Nat)).toNat - Int.toNat 0 = rs.length - ary (ns.getD ((k : Int)).toNat tNd.dflt).1 by rw [Int.toNat_zero]; omega]
      · exact ⟨hlt, by dsimp only; omega, hn.out, hst.out⟩
      · show ns.length - (k + 1) < ns.length - k; omega
  · have e : k = ns.length := by omega
    subst e
    rw [List.drop_length] at hst
    have hst : rs.length = 1 := hst
    (repeat' (first | (with_reducible refine Cend.go ?_) | (with_reducible refine Step.mk True.intro ?_) | (with_reducible refine Step.mk ?_ ?_; focus (((try simp only [true_and, and_true, and_self, kmin, kmax, decide_eq_true_eq, decide_eq_false_iff_not, castD_self, castL_self, List.length_cons, List.length_nil, List.length_append, Int.natCast_add] at *) <;> omega))) | (with_reducible refine Step.mk ?_ ?_) | (with_reducible refine Way.t1 ?_) | (with_reducible refine Way.f1 ?_) | ((with_reducible refine Way.dec (fun _ => ?_) (fun _ => ?_)) <;> try (exfalso; omega)) | (with_reducible refine Way.nt ?_) | (with_reducible refine Way.mk (fun _ => ?_) (fun _ => ?_)) | (with_reducible refine Drawn.mk (by kernel_rfl) ?_) | (refine Run.mk ?_)))
    exact Ret.mk rfl
end Go.Proofs.Ytgdlbpihkodeoaa
