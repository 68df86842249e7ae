/- The walk of diff.Common. -/
import Derived.Test.YtdpcbffmmndhcaaWxAlign
import Derived.Test.YtdpcbffmmndhcaaWxLin
namespace Go.Proofs.Ytdpcbffmmndhcaa
open Go.RowKit
set_option maxRecDepth 10000
set_option linter.unusedSimpArgs false

def comV (a b : List ByteArray) : List ByteArray := if bC a b = 0 then kp a b else []
def sp_Common : SpecF := pureSp false [.slice .str, .slice .str] (fun _ => True) (fun (a', b', _) => .tu [(false, [.d (.slice .str) (comV a' b')]), (true, [.d (.int .i64) (bC a' b'), .d (.int .i64) (bI a' b')])])
theorem Common_sp : SpFact 20 sp_Common := by
  refine ⟨⟨Try.f20, rfl, rfl, rfl, pureSp_okF (env_fine (sp := [(38, sp_Both), (39, sp_Align)]) (eq := [(24, true)]) ⟨Both_sp, Align_sp, True.intro⟩ ⟨eq_fault, True.intro⟩) rfl (fun ⟨_, _, _⟩ _ => rfl) ?_⟩, pureSp_loc _ _ _ _⟩
  rintro ⟨a, b, u⟩ - -
  by_cases h0 : bC a b = 0
  · obtain ⟨ha, hb, hi⟩ := bgood h0
    have hal := (align_len a b).1
    have e0 : comV a b = kp a b := if_pos h0
    dsimp only
    rw [e0]
    have hf : (decide (bC a b = 0) && decide (bI a b = 0)) = true := by rw [bfault, decide_eq_true h0]
    replace hf := Lib.hid hf
    rw [h0, hi]
    clear h0 hi
    (refine fnM_of rfl rfl rfl rfl ?_; dsimp only [params, argAV, Ty.leaves, Ty.isSt])
    (repeat' (first | (with_reducible refine Step.mk True.intro ?_) | (with_reducible refine Step.mk ?_ ?_; focus (((try simp only [true_and, and_true, and_self, kmin, kmax, decide_eq_true_eq, decide_eq_false_iff_not, castD_self, castL_self, List.length_cons, List.length_nil, List.length_append, Int.natCast_add] at *) <;> omega))) | (with_reducible refine Step.mk ?_ ?_) | (with_reducible refine Way.t1 ?_) | (with_reducible refine Way.f1 ?_) | ((with_reducible refine Way.dec (fun _ => ?_) (fun _ => ?_)) <;> try (exfalso; omega)) | (with_reducible refine Way.nt ?_) | ((with_reducible refine Way.mk (fun _ => ?_) (fun _ => ?_)) <;> try (exfalso; rename_i hw; first | exact Bool.noConfusion ((Go.RowKit.Hid.out hf).symm.trans hw) | exact Bool.noConfusion (hw.symm.trans (Go.RowKit.Hid.out hf)))) | (with_reducible refine Drawn.mk (by kernel_rfl) ?_) | (refine Run.mk ?_)))
    · refine loop_by (X := Nat × Nat × Nat × List ByteArray) (fun x => [.put 0 (.v false [.d (.slice .str) a]), .put 1 (.v false [.d (.slice .str) b]), .put 5 (.v false [.p 5 0]), .put 7 (.v false [.o 34]), .put 8 (.v false [.d (.int .i64) (x.2.1 : Int)]), .put 20 (.v false [.o 20]), .put 21 (.v false [.d (.int .i64) ((align a b).length : Int)]), .put 22 (.v false [.d (.int .i64) (x.1 : Int)])])
        (fun x => [.put 5 (.box 24 [.d (.int .i64) 0, .d (.int .i64) 0]), .put 20 (.row 3 (.int .i64) (align a b)), .put 34 (.row 9 .str x.2.2.2)])
        (fun x => x.1 ≤ (align a b).length ∧ x.2.1 ≤ a.length ∧ x.2.2.1 ≤ b.length ∧ x.2.2.2.length ≤ x.2.1 ∧ (align a b).drop x.1 = align (a.drop x.2.1) (b.drop x.2.2.1) ∧ kp a b = x.2.2.2 ++ kp (a.drop x.2.1) (b.drop x.2.2.1)) (fun x => (align a b).length - x.1) (0, 0, 0, []) ⟨Nat.zero_le _, Nat.zero_le _, Nat.zero_le _, Nat.zero_le _, rfl, rfl⟩ ?_ ?_
      · refine (Wk.nilrow 7 34 9 .str rfl).trans ?_
        (refine Wk.keep ?_ ?_ <;> repeat' (first | exact True.intro | refine And.intro rfl ?_ | refine And.intro (congrArg (fun z : Int => AV.v false [Lf.d (.int .i64) z]) (by first | omega | (simp only [Int.natCast_add, List.length_cons, List.length_append, List.length_nil]; omega))) ?_ | refine And.intro ?_ ?_))
      rintro ⟨q, i, j, o⟩ ⟨hq, hi, hj, ho, hd, hk⟩
      dsimp only at hq hi hj ho hd hk ⊢
      by_cases hqe : q < (align a b).length
      · have hv : (align a b).getD ((q : Int)).toNat (Ty.int .i64).dflt = (align a b)[q] := getD_int _ hqe
        rcases align_next a b i j q hd hqe with ⟨e0, hi', hj', hab, hd', hk'⟩ | ⟨e0, hi', hd', hk', -⟩ | ⟨e0, hj', hd', hk', -⟩
        · rw [e0] at hv
          have ga : a.getD ((i : Int)).toNat Ty.str.dflt = a[i] := by rw [Int.toNat_natCast, List.getD_eq_getElem?_getD, List.getElem?_eq_getElem hi']; rfl
          replace hd := Lib.hid hd
          replace hd' := Lib.hid hd'
          replace hk := Lib.hid hk
          replace hk' := Lib.hid hk'
          replace ga := Lib.hid ga
          replace hab := Lib.hid hab
          replace e0 := Lib.hid e0
          (repeat' (first | (with_reducible refine Step.mk True.intro ?_) | (with_reducible refine Step.mk ?_ ?_; focus (((try simp only [true_and, and_true, and_self, kmin, kmax, decide_eq_true_eq, decide_eq_false_iff_not, castD_self, castL_self, List.length_cons, List.length_nil, List.length_append, Int.natCast_add] at *) <;> omega))) | (with_reducible refine Step.mk ?_ ?_) | (with_reducible refine Way.t1 ?_) | (with_reducible refine Way.f1 ?_) | ((with_reducible refine Way.dec (fun _ => ?_) (fun _ => ?_)) <;> try (exfalso; omega)) | (with_reducible refine Way.nt ?_) | (with_reducible refine Way.mk (fun _ => ?_) (fun _ => ?_)) | (with_reducible refine Drawn.mk (by kernel_rfl) ?_) | (refine Run.mk ?_)))
          (refine Back.by ((q + 1, i + 1, j + 1, o ++ [a.getD ((i : Int)).toNat Ty.str.dflt])) ?_ ?_ ?_; focus (refine Wk.keep ?_ ?_ <;> repeat' (first | exact True.intro | refine And.intro rfl ?_ | refine And.intro (congrArg (fun z : Int => AV.v false [Lf.d (.int .i64) z]) (by first | omega | (simp only [Int.natCast_add, List.length_cons, List.length_append, List.length_nil]; omega))) ?_ | refine And.intro ?_ ?_)))
          · refine ⟨hqe, hi', hj', by simp only [List.length_append, List.length_cons, List.length_nil]; omega, hd'.out, ?_⟩
            dsimp only
            rw [hk.out, hk'.out, ga.out, List.append_assoc]; rfl
          · show _ - (q + 1) < _ - q; omega
        · rw [e0] at hv
          replace hd := Lib.hid hd
          replace hd' := Lib.hid hd'
          replace hk := Lib.hid hk
          replace hk' := Lib.hid hk'
          replace e0 := Lib.hid e0
          (repeat' (first | (with_reducible refine Step.mk True.intro ?_) | (with_reducible refine Step.mk ?_ ?_; focus (((try simp only [true_and, and_true, and_self, kmin, kmax, decide_eq_true_eq, decide_eq_false_iff_not, castD_self, castL_self, List.length_cons, List.length_nil, List.length_append, Int.natCast_add] at *) <;> omega))) | (with_reducible refine Step.mk ?_ ?_) | (with_reducible refine Way.t1 ?_) | (with_reducible refine Way.f1 ?_) | ((with_reducible refine Way.dec (fun _ => ?_) (fun _ => ?_)) <;> try (exfalso; omega)) | (with_reducible refine Way.nt ?_) | (with_reducible refine Way.mk (fun _ => ?_) (fun _ => ?_)) | (with_reducible refine Drawn.mk (by kernel_rfl) ?_) | (refine Run.mk ?_)))
          (refine Back.by ((q + 1, i + 1, j, o)) ?_ ?_ ?_; focus (refine Wk.keep ?_ ?_ <;> repeat' (first | exact True.intro | refine And.intro rfl ?_ | refine And.intro (congrArg (fun z : Int => AV.v false [Lf.d (.int .i64) z]) (by first | omega | (simp only [Int.natCast_add, List.length_cons, List.length_append, List.length_nil]; omega))) ?_ | refine And.intro ?_ ?_)))
          · exact ⟨hqe, hi', hj, by dsimp only; omega, hd'.out, by dsimp only; rw [hk.out, hk'.out]⟩
          · show _ - (q + 1) < _ - q; omega
        · rw [e0] at hv
          replace hd := Lib.hid hd
          replace hd' := Lib.hid hd'
          replace hk := Lib.hid hk
          replace hk' := Lib.hid hk'
          replace e0 := Lib.hid e0
          (repeat' (first | (with_reducible refine Step.mk True.intro ?_) | (with_reducible refine Step.mk ?_ ?_; focus (((try simp only [true_and, and_true, and_self, kmin, kmax, decide_eq_true_eq, decide_eq_false_iff_not, castD_self, castL_self, List.length_cons, List.length_nil, List.length_append, Int.natCast_add] at *) <;> omega))) | (with_reducible refine Step.mk ?_ ?_) | (with_reducible refine Way.t1 ?_) | (with_reducible refine Way.f1 ?_) | ((with_reducible refine Way.dec (fun _ => ?_) (fun _ => ?_)) <;> try (exfalso; omega)) | (with_reducible refine Way.nt ?_) | (with_reducible refine Way.mk (fun _ => ?_) (fun _ => ?_)) | (with_reducible refine Drawn.mk (by kernel_rfl) ?_) | (refine Run.mk ?_)))
          (refine Back.by ((q + 1, i, j + 1, o)) ?_ ?_ ?_; focus (refine Wk.keep ?_ ?_ <;> repeat' (first | exact True.intro | refine And.intro rfl ?_ | refine And.intro (congrArg (fun z : Int => AV.v false [Lf.d (.int .i64) z]) (by first | omega | (simp only [Int.natCast_add, List.length_cons, List.length_append, List.length_nil]; omega))) ?_ | refine And.intro ?_ ?_)))
          · exact ⟨hqe, hi, hj', ho, hd'.out, by dsimp only; rw [hk.out, hk'.out]⟩
          · show _ - (q + 1) < _ - q; omega
      · have hlast := align_last a b i j q hd (by omega)
        (repeat' (first | (with_reducible refine Step.mk True.intro ?_) | (with_reducible refine Step.mk ?_ ?_; focus (((try simp only [true_and, and_true, and_self, kmin, kmax, decide_eq_true_eq, decide_eq_false_iff_not, castD_self, castL_self, List.length_cons, List.length_nil, List.length_append, Int.natCast_add] at *) <;> omega))) | (with_reducible refine Step.mk ?_ ?_) | (with_reducible refine Way.t1 ?_) | (with_reducible refine Way.f1 ?_) | ((with_reducible refine Way.dec (fun _ => ?_) (fun _ => ?_)) <;> try (exfalso; omega)) | (with_reducible refine Way.nt ?_) | (with_reducible refine Way.mk (fun _ => ?_) (fun _ => ?_)) | (with_reducible refine Drawn.mk (by kernel_rfl) ?_) | (refine Run.mk ?_)))
        refine Ret.mk ?_
        rw [hk, hlast, List.append_nil]
        exact ⟨⟨rfl, .frz rfl, True.intro⟩, ⟨rfl, .same, .same, True.intro⟩, True.intro⟩
  · have e0 : comV a b = [] := if_neg h0
    have hf : (decide (bC a b = 0) && decide (bI a b = 0)) = false := by rw [bfault, decide_eq_false h0]
    dsimp only
    rw [e0]
    replace hf := Lib.hid hf
    clear h0
    (refine fnM_of rfl rfl rfl rfl ?_; dsimp only [params, argAV, Ty.leaves, Ty.isSt])
    (repeat' (first | (with_reducible refine Step.mk True.intro ?_) | (with_reducible refine Step.mk ?_ ?_; focus (((try simp only [true_and, and_true, and_self, kmin, kmax, decide_eq_true_eq, decide_eq_false_iff_not, castD_self, castL_self, List.length_cons, List.length_nil, List.length_append, Int.natCast_add] at *) <;> omega))) | (with_reducible refine Step.mk ?_ ?_) | (with_reducible refine Way.t1 ?_) | (with_reducible refine Way.f1 ?_) | ((with_reducible refine Way.dec (fun _ => ?_) (fun _ => ?_)) <;> try (exfalso; omega)) | (with_reducible refine Way.nt ?_) | ((with_reducible refine Way.mk (fun _ => ?_) (fun _ => ?_)) <;> try (exfalso; rename_i hw; first | exact Bool.noConfusion ((Go.RowKit.Hid.out hf).symm.trans hw) | exact Bool.noConfusion (hw.symm.trans (Go.RowKit.Hid.out hf)))) | (with_reducible refine Drawn.mk (by kernel_rfl) ?_) | (refine Run.mk ?_)))
    refine Ret.mk ?_
    exact ⟨⟨rfl, .frz rfl, True.intro⟩, ⟨rfl, .same, .same, True.intro⟩, True.intro⟩
end Go.Proofs.Ytdpcbffmmndhcaa
