/- TopBasesQuery: the law's walk. -/
import Derived.Test.YtgdlbpihkodeoaaWxBas
import Derived.Test.YtgdlbpihkodeoaaWxFork
namespace Go.Proofs.Ytgdlbpihkodeoaa
open Go.RowKit
set_option maxRecDepth 100000
set_option linter.unusedSimpArgs false

noncomputable def basV (l : List Cm) (a b : Int) : List Int := if (basF l a b).1 = 0 then bestP l [a, b] else []
noncomputable def sp_Bases : SpecF := pureSp false [.slice tCm, .int .i64, .int .i64] (fun _ => True) (fun (l', a', b', _) => .tu [(false, [.d (.slice (.int .i64)) (basV l' a' b')]), (true, [.d (.int .i64) (basF l' a' b').1, .d (.int .i64) (basF l' a' b').2])])
theorem Bases_sp : SpFact 20 sp_Bases := by
  refine ⟨⟨Try.f20, rfl, rfl, rfl, pureSp_okF (env_fine (sp := [(41, sp_mcheck), (42, sp_best)]) (eq := [(24, true)]) ⟨mcheck_sp, best_sp, True.intro⟩ ⟨eq_fault, True.intro⟩) rfl (fun _ _ => rfl) ?_⟩, pureSp_loc _ _ _ _⟩
  rintro ⟨l, a, b, u⟩ - -
  change List Cm at l
  change Int at a b
  dsimp only
  by_cases h : (basF l a b).1 = 0
  · have e : basV l a b = bestP l [a, b] := if_pos h
    obtain ⟨h1, h2, h3, h4⟩ := basF_ok h
    have hz : (basF l a b).2 = 0 := by rw [h4]
    have hf : (decide ((basF l a b).1 = 0) && decide ((basF l a b).2 = 0)) = true := by rw [h, hz]; rfl
    have hp : OfPre l [a, b] ∧ ([a, b] : List Int).length ≤ 60 := ⟨⟨h1, by simp, fun n hn => by rcases List.mem_cons.1 hn with rfl | hn; exact h2; rw [List.mem_singleton] at hn; rw [hn]; exact h3⟩, by simp⟩
    rw [e]
    replace hf := Lib.hid hf
    replace hp := Lib.hid hp
    rw [h, hz]
    clear h1 h4 h2 h3
    replace h := Lib.hid h
    replace hz := Lib.hid hz
    (refine fnM_of rfl rfl rfl rfl ?_; dsimp only [params, argAV, Ty.leaves, Ty.isSt])
    (repeat' (first | (with_reducible refine Cend.go ?_) | (with_reducible refine Step.mk True.intro ?_) | (with_reducible refine Step.mk ?_ ?_; focus (((try simp only [true_and, and_true, and_self, kmin, kmax, decide_eq_true_eq, decide_eq_false_iff_not, castD_self, castL_self, List.length_cons, List.length_nil, List.length_append, Int.natCast_add] at *) <;> omega))) | (with_reducible refine Step.mk ?_ ?_) | (with_reducible refine Way.t1 ?_) | (with_reducible refine Way.f1 ?_) | ((with_reducible refine Way.dec (fun _ => ?_) (fun _ => ?_)) <;> try (exfalso; omega)) | (with_reducible refine Way.nt ?_) | ((with_reducible refine Way.mk (fun _ => ?_) (fun _ => ?_)) <;> try (exfalso; rename_i hw; first | exact Bool.noConfusion ((Go.RowKit.Hid.out hf).symm.trans hw) | exact Bool.noConfusion (hw.symm.trans (Go.RowKit.Hid.out hf)))) | (with_reducible refine Drawn.mk (by kernel_rfl) ?_) | (refine Run.mk ?_)))
    · exact hp.out
    exact Ret.mk ⟨⟨rfl, .frz rfl, True.intro⟩, ⟨rfl, .same, .same, True.intro⟩, True.intro⟩
  · have e : basV l a b = [] := if_neg h
    have hf : (decide ((basF l a b).1 = 0) && decide ((basF l a b).2 = 0)) = false := by rw [decide_eq_false h]; rfl
    rw [e]
    replace hf := Lib.hid hf
    replace h := Lib.hid h
    (refine fnM_of rfl rfl rfl rfl ?_; dsimp only [params, argAV, Ty.leaves, Ty.isSt])
    (repeat' (first | (with_reducible refine Cend.go ?_) | (with_reducible refine Step.mk True.intro ?_) | (with_reducible refine Step.mk ?_ ?_; focus (((try simp only [true_and, and_true, and_self, kmin, kmax, decide_eq_true_eq, decide_eq_false_iff_not, castD_self, castL_self, List.length_cons, List.length_nil, List.length_append, Int.natCast_add] at *) <;> omega))) | (with_reducible refine Step.mk ?_ ?_) | (with_reducible refine Way.t1 ?_) | (with_reducible refine Way.f1 ?_) | ((with_reducible refine Way.dec (fun _ => ?_) (fun _ => ?_)) <;> try (exfalso; omega)) | (with_reducible refine Way.nt ?_) | ((with_reducible refine Way.mk (fun _ => ?_) (fun _ => ?_)) <;> try (exfalso; rename_i hw; first | exact Bool.noConfusion ((Go.RowKit.Hid.out hf).symm.trans hw) | exact Bool.noConfusion (hw.symm.trans (Go.RowKit.Hid.out hf)))) | (with_reducible refine Drawn.mk (by kernel_rfl) ?_) | (refine Run.mk ?_)))
    exact Ret.mk ⟨⟨rfl, .frz rfl, True.intro⟩, ⟨rfl, .inl rfl, .inl rfl, True.intro⟩, True.intro⟩

theorem basV_pos {l : List Cm} {a b : Int} (h : (basF l a b).1 = 0) : basV l a b = bestP l [a, b] := if_pos h
theorem basV_neg {l : List Cm} {a b : Int} (h : ¬ (basF l a b).1 = 0) : basV l a b = [] := if_neg h
attribute [local irreducible] wrapP joinP comK evR selI basV in
theorem law_TopBasesQuery : SpFact 5 (pureSp false [.slice tCm, .int .i64, .int .i64] (fun _ => True) (fun _ => .v false [.d .bool true])) := by
  refine ⟨⟨Try.f5, rfl, rfl, rfl, pureSp_ok (env1_fine (sp := [(13, sp_Fork), (20, sp_Bases), (9, sp_InT), (18, sp_mlC), (17, sp_Wrap), (16, sp_Join), (19, sp_mlS), (11, sp_Ints3)]) (eq := []) (inl := []) (cl := [55, 59])
    ⟨Fork_sp, Bases_sp, InT_sp, mlC_sp, Wrap_sp, Join_sp, mlS_sp, Ints3_sp, True.intro⟩ True.intro True.intro) rfl (fun _ _ => rfl) ?_⟩, pureSp_loc _ _ _ _⟩
  rintro ⟨l, a, b, u⟩ ⟨⟨hll, -⟩, -⟩ -
  change List Cm at l
  change Int at a b
  rw [maxLen_eq] at hll
  have hll : l.length ≤ 9223372036854775807 := hll
  by_cases h : (basF l a b).1 = 0
  · have e : basV l a b = bestP l [a, b] := basV_pos h
    obtain ⟨h1, ha, hb, h4⟩ := basF_ok h
    have hl := hC_len h1
    replace h := Lib.hid h
    have q1 : ∀ n : Int, 0 ≤ n → n < l.length → ([n] : List Int).length ≤ 60 ∧ ∀ m ∈ ([n] : List Int), 0 ≤ m ∧ m ≤ 59 := fun n n0 n1 => ⟨by simp, fun m hm => by rw [List.mem_singleton] at hm; rw [hm]; omega⟩
    have qa := q1 a ha.1 ha.2
    have qb := q1 b hb.1 hb.2
    have q3 : smN ((comK [a]).at 0) := Qx.smN (by rw [comK_size]; simp)
    have q4 : smN ((comK [b]).at 0) := Qx.smN (by rw [comK_size]; simp)
    have q5 : smN (wrapP 8 ((comK [a]).at 0)) := by rw [wrapP_at]; exact Qx.smN (by show (comK [a]).size + 1 ≤ 1000; rw [comK_size]; simp)
    have q6 : smN (wrapP 8 ((comK [b]).at 0)) := by rw [wrapP_at]; exact Qx.smN (by show (comK [b]).size + 1 ≤ 1000; rw [comK_size]; simp)
    have hg := basQ_good hl ha hb
    have fj : joinP 15 (wrapP 8 ((comK [a]).at 0)) (wrapP 8 ((comK [b]).at 0)) = (Qx.bi 15 (.un 8 (comK [a])) (.un 8 (comK [b]))).at 0 := by
      rw [wrapP_at, wrapP_at]; exact joinP_at hg.2.2.2
    have fq : wrapP 12 (joinP 15 (wrapP 8 ((comK [a]).at 0)) (wrapP 8 ((comK [b]).at 0))) = (basQ a b).at 0 := by rw [fj, wrapP_at]; rfl
    have qj : smN (joinP 15 (wrapP 8 ((comK [a]).at 0)) (wrapP 8 ((comK [b]).at 0))) := by
      rw [fj]
      exact Qx.smN (by have := basQ_size a b; have e2 : (basQ a b).size = (Qx.bi 15 (.un 8 (comK [a])) (.un 8 (comK [b]))).size + 1 := rfl; omega)
    have q7 : EvPre l (wrapP 12 (joinP 15 (wrapP 8 ((comK [a]).at 0)) (wrapP 8 ((comK [b]).at 0)))) := by
      rw [fq]; exact Qx.evPre h1 hg (by rw [basQ_size]; decide)
    have q8 : bestP l [a, b] = selI (evR l (wrapP 12 (joinP 15 (wrapP 8 ((comK [a]).at 0)) (wrapP 8 ((comK [b]).at 0))))) := by
      rw [fq, Qx.evR hg, basQ_ev ha hb]
    have q8 : decide (basV l a b = selI (evR l (wrapP 12 (joinP 15 (wrapP 8 ((comK [a]).at 0)) (wrapP 8 ((comK [b]).at 0)))))) = true := decide_eq_true (e.trans q8)
    clear fq fj e hg h4 q1
    replace h1 := Lib.hid h1
    replace qa := Lib.hid qa
    replace qb := Lib.hid qb
    replace q3 := Lib.hid q3
    replace q4 := Lib.hid q4
    replace q5 := Lib.hid q5
    replace q6 := Lib.hid q6
    replace qj := Lib.hid qj
    replace q7 := Lib.hid q7
    replace q8 := Lib.hid q8
    (refine fnM_of rfl rfl rfl rfl ?_; dsimp only [params, argAV, Ty.leaves, Ty.isSt])
    (repeat' (first | (with_reducible refine Cend.go ?_) | (with_reducible refine Step.mk True.intro ?_) | (with_reducible refine Step.mk ?_ ?_; focus (((try simp only [true_and, and_true, and_self, kmin, kmax, decide_eq_true_eq, decide_eq_false_iff_not, castD_self, castL_self, List.length_cons, List.length_nil, List.length_append, Int.natCast_add] at *) <;> omega))) | (with_reducible refine Step.mk ?_ ?_) | (with_reducible refine Way.t1 ?_) | (with_reducible refine Way.f1 ?_) | ((with_reducible refine Way.dec (fun zz => ?_) (fun zz => ?_)) <;> (try simp only [castD_self, castL_self] at zz) <;> try (exfalso; first | omega | contradiction)) | (with_reducible refine Way.nt ?_) | ((with_reducible refine Way.mk (fun _ => ?_) (fun _ => ?_)) <;> try (exfalso; rename_i hw; first | exact Bool.noConfusion ((Go.RowKit.Hid.out h).symm.trans hw) | exact Bool.noConfusion (hw.symm.trans (Go.RowKit.Hid.out h)))) | (with_reducible refine Drawn.mk (by kernel_rfl) ?_) | (refine Run.mk ?_)))
    · show (0 : Int) ≤ a ∧ a ≤ (l.length : Int) - 1; omega
    · show (0 : Int) ≤ b ∧ b ≤ (l.length : Int) - 1; omega
    · exact qa.out
    · exact q3.out
    · exact qb.out
    · exact q4.out
    · exact ⟨q5.out, q6.out⟩
    · exact qj.out
    · exact q7.out
    · exact Ret.mk (congrArg (fun b => AV.v false [Lf.d .bool b]) q8.out)
  · have e : basV l a b = [] := basV_neg h
    replace h := Lib.hid h
    replace e := Lib.hid e
    (refine fnM_of rfl rfl rfl rfl ?_; dsimp only [params, argAV, Ty.leaves, Ty.isSt])
    (repeat' (first | (with_reducible refine Cend.go ?_) | (with_reducible refine Step.mk True.intro ?_) | (with_reducible refine Step.mk ?_ ?_; focus (((try simp only [true_and, and_true, and_self, kmin, kmax, decide_eq_true_eq, decide_eq_false_iff_not, castD_self, castL_self, List.length_cons, List.length_nil, List.length_append, Int.natCast_add] at *) <;> omega))) | (with_reducible refine Step.mk ?_ ?_) | (with_reducible refine Way.t1 ?_) | (with_reducible refine Way.f1 ?_) | ((with_reducible refine Way.dec (fun zz => ?_) (fun zz => ?_)) <;> (try simp only [castD_self, castL_self] at zz) <;> try (exfalso; first | omega | contradiction)) | (with_reducible refine Way.nt ?_) | ((with_reducible refine Way.mk (fun _ => ?_) (fun _ => ?_)) <;> try (exfalso; rename_i hw; first | exact Bool.noConfusion ((Go.RowKit.Hid.out h).symm.trans hw) | exact Bool.noConfusion (hw.symm.trans (Go.RowKit.Hid.out h)))) | (with_reducible refine Drawn.mk (by kernel_rfl) ?_) | (refine Run.mk ?_)))
    · show ((basV l a b).length : Int) ≤ 9223372036854775807
      rw [e.out]; decide
    · refine Ret.mk (congrArg (fun b => AV.v false [Lf.d .bool b]) (decide_eq_true ?_))
      show ((basV l a b).length : Int) = 0
      rw [e.out]; rfl
end Go.Proofs.Ytgdlbpihkodeoaa
