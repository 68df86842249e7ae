/- The walks of diff.Distance, cost, moved. -/
import Derived.Test.YthacjpemeaekdaaWxScript
namespace Go.Proofs.Ythacjpemeaekdaa
open Go.RowKit
set_option maxRecDepth 10000
set_option linter.unusedSimpArgs false

def dstV (a b : List ByteArray) : Int := if bC a b = 0 then (cnt (align a b) : Int) else 0
theorem dst_lcs {a b : List ByteArray} (h : bC a b = 0) : dstV a b = (a.length : Int) + b.length - 2 * (lcs a b : Nat) := by
  rw [show dstV a b = (cnt (align a b) : Int) from if_pos h, show cnt (align a b) = _ from (align_len a b).2]
  have := lcs_le_l a b
  have := lcs_le_r a b
  omega
def sp_Distance : SpecF := pureSp false [.slice .str, .slice .str] (fun _ => True) (fun (a', b', _) => .tu [(false, [.d (.int .i64) (dstV a' b')]), (true, [.d (.int .i64) (bC a' b'), .d (.int .i64) (bI a' b')])])
theorem Distance_sp : SpFact 34 sp_Distance := by
  refine ⟨⟨Try.f34, rfl, rfl, rfl, pureSp_okF (env_fine (sp := [(64, sp_Both), (65, sp_Align)]) (eq := [(24, true)]) ⟨Both_sp, Align_sp, True.intro⟩ ⟨eq_fault, True.intro⟩) rfl (fun ⟨_, _, _⟩ _ => rfl) ?_⟩, pureSp_loc _ _ _ _⟩
  rintro ⟨a, b, u⟩ - -
  change List ByteArray at a b
  by_cases h0 : bC a b = 0
  · obtain ⟨ha, hb, hi⟩ := bgood h0
    have hal := (align_len a b).1
    have e0 : dstV a b = (cnt (align a b) : Int) := if_pos h0
    dsimp only
    rw [e0]
    have hf : (decide (bC a b = 0) && decide (bI a b = 0)) = true := by rw [bfault, decide_eq_true h0]
    replace hf := Lib.hid hf
    rw [h0, hi]
    clear h0 hi e0
    (refine fnM_of rfl rfl rfl rfl ?_; dsimp only [params, argAV, Ty.leaves, Ty.isSt])
    (repeat' (first | (with_reducible refine Step.mk True.intro ?_) | (with_reducible refine Step.mk ?_ ?_; focus (((try simp only [true_and, and_true, and_self, kmin, kmax, decide_eq_true_eq, decide_eq_false_iff_not, castD_self, castL_self, List.length_cons, List.length_nil, List.length_append, Int.natCast_add] at *) <;> omega))) | (with_reducible refine Step.mk ?_ ?_) | (with_reducible refine Way.t1 ?_) | (with_reducible refine Way.f1 ?_) | ((with_reducible refine Way.dec (fun _ => ?_) (fun _ => ?_)) <;> try (exfalso; omega)) | (with_reducible refine Way.nt ?_) | ((with_reducible refine Way.mk (fun _ => ?_) (fun _ => ?_)) <;> try (exfalso; rename_i hw; first | exact Bool.noConfusion ((Go.RowKit.Hid.out hf).symm.trans hw) | exact Bool.noConfusion (hw.symm.trans (Go.RowKit.Hid.out hf)))) | (with_reducible refine Drawn.mk (by kernel_rfl) ?_) | (refine Run.mk ?_)))
    · refine loop_by (X := Nat × Nat) (fun x => [.put 5 (.v false [.p 5 0]), .put 7 (.v false [.d (.int .i64) (x.2 : Int)]), .put 19 (.v false [.o 19]), .put 20 (.v false [.d (.int .i64) ((align a b).length : Int)]), .put 21 (.v false [.d (.int .i64) (x.1 : Int)])])
        (fun x => [.put 5 (.box 24 [.d (.int .i64) 0, .d (.int .i64) 0]), .put 19 (.row 3 (.int .i64) (align a b))])
        (fun x => x.1 ≤ (align a b).length ∧ x.2 ≤ x.1 ∧ cnt ((align a b).take x.1) = x.2) (fun x => (align a b).length - x.1) (0, 0) ⟨Nat.zero_le _, Nat.le_refl _, rfl⟩ ?_ ?_
      · (refine Wk.keep ?_ ?_ <;> repeat' (first | exact True.intro | refine And.intro rfl ?_ | refine And.intro (congrArg (fun z : Int => AV.v false [Lf.d (.int .i64) z]) (by first | omega | (simp only [Int.natCast_add, List.length_cons, List.length_append, List.length_nil]; omega))) ?_ | refine And.intro ?_ ?_))
      rintro ⟨q, n⟩ ⟨hq, hn, hc⟩
      dsimp only at hq hn hc ⊢
      by_cases hqe : q < (align a b).length
      · have hv : (align a b).getD ((q : Int)).toNat (Ty.int .i64).dflt = (align a b)[q] := getD_int _ hqe
        have ht := cnt_take (align a b) q hqe
        rw [← hv, hc] at ht
        replace ht := Lib.hid ht
        replace hv := Lib.hid hv
        replace hc := Lib.hid hc
        (repeat' (first | (with_reducible refine Step.mk True.intro ?_) | (with_reducible refine Step.mk ?_ ?_; focus (((try simp only [true_and, and_true, and_self, kmin, kmax, decide_eq_true_eq, decide_eq_false_iff_not, castD_self, castL_self, List.length_cons, List.length_nil, List.length_append, Int.natCast_add] at *) <;> omega))) | (with_reducible refine Step.mk ?_ ?_) | (with_reducible refine Way.t1 ?_) | (with_reducible refine Way.f1 ?_) | ((with_reducible refine Way.dec (fun _ => ?_) (fun _ => ?_)) <;> try (exfalso; omega)) | (with_reducible refine Way.nt ?_) | (with_reducible refine Way.mk (fun _ => ?_) (fun _ => ?_)) | (with_reducible refine Drawn.mk (by kernel_rfl) ?_) | (refine Run.mk ?_)))
        · rename_i h
          have h : (align a b).getD ((q : Int)).toNat (Ty.int .i64).dflt = 0 := h
          (refine Back.by ((q + 1, n)) ?_ ?_ ?_; focus (refine Wk.keep ?_ ?_ <;> repeat' (first | exact True.intro | refine And.intro rfl ?_ | refine And.intro (congrArg (fun z : Int => AV.v false [Lf.d (.int .i64) z]) (by first | omega | (simp only [Int.natCast_add, List.length_cons, List.length_append, List.length_nil]; omega))) ?_ | refine And.intro ?_ ?_)))
          · exact ⟨hqe, Nat.le_succ_of_le hn, ht.out.trans (if_pos h ▸ rfl)⟩
          · show _ - (q + 1) < _ - q; omega
        · rename_i h
          have h : ¬ (align a b).getD ((q : Int)).toNat (Ty.int .i64).dflt = 0 := h
          (refine Back.by ((q + 1, n + 1)) ?_ ?_ ?_; focus (refine Wk.keep ?_ ?_ <;> repeat' (first | exact True.intro | refine And.intro rfl ?_ | refine And.intro (congrArg (fun z : Int => AV.v false [Lf.d (.int .i64) z]) (by first | omega | (simp only [Int.natCast_add, List.length_cons, List.length_append, List.length_nil]; omega))) ?_ | refine And.intro ?_ ?_)))
          · exact ⟨hqe, Nat.succ_le_succ hn, ht.out.trans (if_neg h ▸ rfl)⟩
          · show _ - (q + 1) < _ - q; omega
      · rw [List.take_of_length_le (by omega)] at hc
        (repeat' (first | (with_reducible refine Step.mk True.intro ?_) | (with_reducible refine Step.mk ?_ ?_; focus (((try simp only [true_and, and_true, and_self, kmin, kmax, decide_eq_true_eq, decide_eq_false_iff_not, castD_self, castL_self, List.length_cons, List.length_nil, List.length_append, Int.natCast_add] at *) <;> omega))) | (with_reducible refine Step.mk ?_ ?_) | (with_reducible refine Way.t1 ?_) | (with_reducible refine Way.f1 ?_) | ((with_reducible refine Way.dec (fun _ => ?_) (fun _ => ?_)) <;> try (exfalso; omega)) | (with_reducible refine Way.nt ?_) | (with_reducible refine Way.mk (fun _ => ?_) (fun _ => ?_)) | (with_reducible refine Drawn.mk (by kernel_rfl) ?_) | (refine Run.mk ?_)))
        refine Ret.mk ?_
        rw [hc]
        exact ⟨⟨rfl, .same, True.intro⟩, ⟨rfl, .same, .same, True.intro⟩, True.intro⟩
  · have e0 : dstV a b = 0 := if_neg h0
    have hf : (decide (bC a b = 0) && decide (bI a b = 0)) = false := by rw [bfault, decide_eq_false h0]
    dsimp only
    rw [e0]
    replace hf := Lib.hid hf
    clear h0
    (refine fnM_of rfl rfl rfl rfl ?_; dsimp only [params, argAV, Ty.leaves, Ty.isSt])
    (repeat' (first | (with_reducible refine Step.mk True.intro ?_) | (with_reducible refine Step.mk ?_ ?_; focus (((try simp only [true_and, and_true, and_self, kmin, kmax, decide_eq_true_eq, decide_eq_false_iff_not, castD_self, castL_self, List.length_cons, List.length_nil, List.length_append, Int.natCast_add] at *) <;> omega))) | (with_reducible refine Step.mk ?_ ?_) | (with_reducible refine Way.t1 ?_) | (with_reducible refine Way.f1 ?_) | ((with_reducible refine Way.dec (fun _ => ?_) (fun _ => ?_)) <;> try (exfalso; omega)) | (with_reducible refine Way.nt ?_) | ((with_reducible refine Way.mk (fun _ => ?_) (fun _ => ?_)) <;> try (exfalso; rename_i hw; first | exact Bool.noConfusion ((Go.RowKit.Hid.out hf).symm.trans hw) | exact Bool.noConfusion (hw.symm.trans (Go.RowKit.Hid.out hf)))) | (with_reducible refine Drawn.mk (by kernel_rfl) ?_) | (refine Run.mk ?_)))
    refine Ret.mk ?_
    exact ⟨⟨rfl, .same, True.intro⟩, ⟨rfl, .same, .same, True.intro⟩, True.intro⟩
end Go.Proofs.Ythacjpemeaekdaa
