/- TopCandidatesQuery: the law's walk. -/
import Derived.Test.YtgdlbpihkodeoaaWxBis
import Derived.Test.YtgdlbpihkodeoaaWxFork
namespace Go.Proofs.Ytgdlbpihkodeoaa
open Go.RowKit
set_option maxRecDepth 100000
set_option linter.unusedSimpArgs false

noncomputable def candV (l : List Cm) (g : List Int) (b : Int) : List Int := if (bisF l g b).1 = 0 then candP l g b else []
theorem bisF_snd {l : List Cm} {g : List Int} {b : Int} (h : (bisF l g b).1 = 0) : (bisF l g b).2 = 0 := by
  rw [bisF_0 (bisF_ok.1 h)]
noncomputable def sp_Cand : SpecF := pureSp false [.slice tCm, .slice (.int .i64), .int .i64] (fun _ => True) (fun (l', g', b', _) => .tu [(false, [.d (.slice (.int .i64)) (candV l' g' b')]), (true, [.d (.int .i64) (bisF l' g' b').1, .d (.int .i64) (bisF l' g' b').2])])
theorem Cand_sp : SpFact 14 sp_Cand := by
  refine ⟨⟨Try.f14, rfl, rfl, rfl, pureSp_okF (env_fine (sp := [(35, sp_bcheck), (36, sp_bcand)]) (eq := [(24, true)]) ⟨bcheck_sp, bcand_sp, True.intro⟩ ⟨eq_fault, True.intro⟩) rfl (fun _ _ => rfl) ?_⟩, pureSp_loc _ _ _ _⟩
  rintro ⟨l, g, b, u⟩ - -
  change List Cm at l
  change List Int at g
  change Int at b
  dsimp only
  by_cases h : (bisF l g b).1 = 0
  · have e : candV l g b = candP l g b := if_pos h
    have ho := bisF_ok.1 h
    have hz := bisF_snd h
    have hf : (decide ((bisF l g b).1 = 0) && decide ((bisF l g b).2 = 0)) = true := by rw [h, hz]; rfl
    have hp : OfPre l g ∧ 0 ≤ b ∧ b < (l.length : Int) := ⟨⟨ho.hc, by have := ho.len; omega, ho.hgood⟩, ho.hbad⟩
    rw [e]
    replace hf := Lib.hid hf
    replace hp := Lib.hid hp
    rw [h, hz]
    replace h := Lib.hid h
    replace hz := Lib.hid hz
    clear ho
    (refine fnM_of rfl rfl rfl rfl ?_; dsimp only [params, argAV, Ty.leaves, Ty.isSt])
    (repeat' (first | (with_reducible refine Cend.go ?_) | (with_reducible refine Step.mk True.intro ?_) | (with_reducible refine Step.mk ?_ ?_; focus (((try simp only [true_and, and_true, and_self, kmin, kmax, decide_eq_true_eq, decide_eq_false_iff_not, castD_self, castL_self, List.length_cons, List.length_nil, List.length_append, Int.natCast_add] at *) <;> omega))) | (with_reducible refine Step.mk ?_ ?_) | (with_reducible refine Way.t1 ?_) | (with_reducible refine Way.f1 ?_) | ((with_reducible refine Way.dec (fun _ => ?_) (fun _ => ?_)) <;> try (exfalso; omega)) | (with_reducible refine Way.nt ?_) | ((with_reducible refine Way.mk (fun _ => ?_) (fun _ => ?_)) <;> try (exfalso; rename_i hw; first | exact Bool.noConfusion ((Go.RowKit.Hid.out hf).symm.trans hw) | exact Bool.noConfusion (hw.symm.trans (Go.RowKit.Hid.out hf)))) | (with_reducible refine Drawn.mk (by kernel_rfl) ?_) | (refine Run.mk ?_)))
    · exact hp.out
    exact Ret.mk ⟨⟨rfl, .frz rfl, True.intro⟩, ⟨rfl, .same, .same, True.intro⟩, True.intro⟩
  · have e : candV l g b = [] := if_neg h
    have hf : (decide ((bisF l g b).1 = 0) && decide ((bisF l g b).2 = 0)) = false := by rw [decide_eq_false h]; rfl
    rw [e]
    replace hf := Lib.hid hf
    replace h := Lib.hid h
    (refine fnM_of rfl rfl rfl rfl ?_; dsimp only [params, argAV, Ty.leaves, Ty.isSt])
    (repeat' (first | (with_reducible refine Cend.go ?_) | (with_reducible refine Step.mk True.intro ?_) | (with_reducible refine Step.mk ?_ ?_; focus (((try simp only [true_and, and_true, and_self, kmin, kmax, decide_eq_true_eq, decide_eq_false_iff_not, castD_self, castL_self, List.length_cons, List.length_nil, List.length_append, Int.natCast_add] at *) <;> omega))) | (with_reducible refine Step.mk ?_ ?_) | (with_reducible refine Way.t1 ?_) | (with_reducible refine Way.f1 ?_) | ((with_reducible refine Way.dec (fun _ => ?_) (fun _ => ?_)) <;> try (exfalso; omega)) | (with_reducible refine Way.nt ?_) | ((with_reducible refine Way.mk (fun _ => ?_) (fun _ => ?_)) <;> try (exfalso; rename_i hw; first | exact Bool.noConfusion ((Go.RowKit.Hid.out hf).symm.trans hw) | exact Bool.noConfusion (hw.symm.trans (Go.RowKit.Hid.out hf)))) | (with_reducible refine Drawn.mk (by kernel_rfl) ?_) | (refine Run.mk ?_)))
    exact Ret.mk ⟨⟨rfl, .frz rfl, True.intro⟩, ⟨rfl, .inl rfl, .inl rfl, True.intro⟩, True.intro⟩

theorem law_TopCandidatesQuery : SpFact 4 (pureSp false [.slice tCm, .slice (.int .i64), .int .i64] (fun _ => True) (fun _ => .v false [.d .bool true])) := by
  refine ⟨⟨Try.f4, rfl, rfl, rfl, pureSp_ok (env1_fine (sp := [(13, sp_Fork), (14, sp_Cand), (15, sp_BF), (18, sp_mlC), (17, sp_Wrap), (16, sp_Join), (19, sp_mlS), (11, sp_Ints3)]) (eq := []) (inl := []) (cl := [52])
    ⟨Fork_sp, Cand_sp, BF_sp, mlC_sp, Wrap_sp, Join_sp, mlS_sp, Ints3_sp, True.intro⟩ True.intro True.intro) rfl (fun _ _ => rfl) ?_⟩, pureSp_loc _ _ _ _⟩
  rintro ⟨l, g, b, u⟩ ⟨-, ⟨hg, -⟩, -⟩ -
  change List Cm at l
  change List Int at g
  change Int at b
  rw [maxLen_eq] at hg
  have hg : g.length ≤ 9223372036854775807 := hg
  by_cases h : (bisF l g b).1 = 0
  · have e : candV l g b = candP l g b := if_pos h
    have ho := bisF_ok.1 h
    have hl := hC_len ho.hc
    replace h := Lib.hid h
    by_cases h9 : 9 < g.length
    · clear ho
      (refine fnM_of rfl rfl rfl rfl ?_; dsimp only [params, argAV, Ty.leaves, Ty.isSt])
      (repeat' (first | (with_reducible refine Cend.go ?_) | (with_reducible refine Step.mk True.intro ?_) | (with_reducible refine Step.mk ?_ ?_; focus (((try simp only [true_and, and_true, and_self, kmin, kmax, decide_eq_true_eq, decide_eq_false_iff_not, castD_self, castL_self, List.length_cons, List.length_nil, List.length_append, Int.natCast_add] at *) <;> omega))) | (with_reducible refine Step.mk ?_ ?_) | (with_reducible refine Way.t1 ?_) | (with_reducible refine Way.f1 ?_) | ((with_reducible refine Way.dec (fun zz => ?_) (fun zz => ?_)) <;> (try simp only [castD_self, castL_self] at zz) <;> try (exfalso; first | omega | contradiction)) | (with_reducible refine Way.nt ?_) | ((with_reducible refine Way.mk (fun _ => ?_) (fun _ => ?_)) <;> try (exfalso; rename_i hw; first | exact Bool.noConfusion ((Go.RowKit.Hid.out h).symm.trans hw) | exact Bool.noConfusion (hw.symm.trans (Go.RowKit.Hid.out h)))) | (with_reducible refine Drawn.mk (by kernel_rfl) ?_) | (refine Run.mk ?_)))
      exact Ret.mk rfl
    · have q1 : ([b] : List Int).length ≤ 60 ∧ ∀ n ∈ ([b] : List Int), 0 ≤ n ∧ n ≤ 59 := ⟨by simp, fun n hn => by rw [List.mem_singleton] at hn; rw [hn]; have := ho.hbad; omega⟩
      have q2 : g.length ≤ 60 ∧ ∀ n ∈ g, 0 ≤ n ∧ n ≤ 59 := ⟨by omega, fun n hn => by have := ho.hgood n hn; omega⟩
      have q3 : smN ((comK [b]).at 0) := Qx.smN (by rw [comK_size]; simp)
      have q4 : smN ((comK g).at 0) := Qx.smN (by rw [comK_size]; omega)
      have q5 : smN (wrapP 8 ((comK [b]).at 0)) := by rw [wrapP_at]; exact Qx.smN (by show (comK [b]).size + 1 ≤ 1000; rw [comK_size]; simp)
      have q6 : smN (wrapP 8 ((comK g).at 0)) := by rw [wrapP_at]; exact Qx.smN (by show (comK g).size + 1 ≤ 1000; rw [comK_size]; omega)
      have fq : joinP 16 (wrapP 8 ((comK [b]).at 0)) (wrapP 8 ((comK g).at 0)) = (candQ g b).at 0 := by
        rw [wrapP_at, wrapP_at]; exact joinP_at (candQ_good ho).2.2
      have q7 : EvPre l (joinP 16 (wrapP 8 ((comK [b]).at 0)) (wrapP 8 ((comK g).at 0))) := by
        rw [fq]; exact Qx.evPre ho.hc (candQ_good ho) (by rw [candQ_size]; omega)
      have q8 : candP l g b = selI (evR l (joinP 16 (wrapP 8 ((comK [b]).at 0)) (wrapP 8 ((comK g).at 0)))) := by
        rw [fq, Qx.evR (candQ_good ho), candQ_ev ho]
      have q8 : decide (candV l g b = selI (evR l (joinP 16 (wrapP 8 ((comK [b]).at 0)) (wrapP 8 ((comK g).at 0))))) = true := decide_eq_true (e.trans q8)
      clear fq e
      replace ho := Lib.hid ho
      replace q1 := Lib.hid q1
      replace q2 := Lib.hid q2
      replace q3 := Lib.hid q3
      replace q4 := Lib.hid q4
      replace q5 := Lib.hid q5
      replace q6 := Lib.hid q6
      replace q7 := Lib.hid q7
      replace q8 := Lib.hid q8
      (refine fnM_of rfl rfl rfl rfl ?_; dsimp only [params, argAV, Ty.leaves, Ty.isSt])
      (repeat' (first | (with_reducible refine Cend.go ?_) | (with_reducible refine Step.mk True.intro ?_) | (with_reducible refine Step.mk ?_ ?_; focus (((try simp only [true_and, and_true, and_self, kmin, kmax, decide_eq_true_eq, decide_eq_false_iff_not, castD_self, castL_self, List.length_cons, List.length_nil, List.length_append, Int.natCast_add] at *) <;> omega))) | (with_reducible refine Step.mk ?_ ?_) | (with_reducible refine Way.t1 ?_) | (with_reducible refine Way.f1 ?_) | ((with_reducible refine Way.dec (fun zz => ?_) (fun zz => ?_)) <;> (try simp only [castD_self, castL_self] at zz) <;> try (exfalso; first | omega | contradiction)) | (with_reducible refine Way.nt ?_) | ((with_reducible refine Way.mk (fun _ => ?_) (fun _ => ?_)) <;> try (exfalso; rename_i hw; first | exact Bool.noConfusion ((Go.RowKit.Hid.out h).symm.trans hw) | exact Bool.noConfusion (hw.symm.trans (Go.RowKit.Hid.out h)))) | (with_reducible refine Drawn.mk (by kernel_rfl) ?_) | (refine Run.mk ?_)))
      · exact ho.out
      · exact q1.out
      · exact q3.out
      · exact q2.out
      · exact q4.out
      · exact ⟨q5.out, q6.out⟩
      · exact q7.out
      · exact Ret.mk (congrArg (fun b => AV.v false [Lf.d .bool b]) q8.out)
  · have e : candV l g b = [] := if_neg h
    replace h := Lib.hid h
    replace e := Lib.hid e
    (refine fnM_of rfl rfl rfl rfl ?_; dsimp only [params, argAV, Ty.leaves, Ty.isSt])
    (repeat' (first | (with_reducible refine Cend.go ?_) | (with_reducible refine Step.mk True.intro ?_) | (with_reducible refine Step.mk ?_ ?_; focus (((try simp only [true_and, and_true, and_self, kmin, kmax, decide_eq_true_eq, decide_eq_false_iff_not, castD_self, castL_self, List.length_cons, List.length_nil, List.length_append, Int.natCast_add] at *) <;> omega))) | (with_reducible refine Step.mk ?_ ?_) | (with_reducible refine Way.t1 ?_) | (with_reducible refine Way.f1 ?_) | ((with_reducible refine Way.dec (fun zz => ?_) (fun zz => ?_)) <;> (try simp only [castD_self, castL_self] at zz) <;> try (exfalso; first | omega | contradiction)) | (with_reducible refine Way.nt ?_) | ((with_reducible refine Way.mk (fun _ => ?_) (fun _ => ?_)) <;> try (exfalso; rename_i hw; first | exact Bool.noConfusion ((Go.RowKit.Hid.out h).symm.trans hw) | exact Bool.noConfusion (hw.symm.trans (Go.RowKit.Hid.out h)))) | (with_reducible refine Drawn.mk (by kernel_rfl) ?_) | (refine Run.mk ?_)))
    · show ((candV l g b).length : Int) ≤ 9223372036854775807
      rw [e.out]; decide
    · refine Ret.mk (congrArg (fun b => AV.v false [Lf.d .bool b]) (decide_eq_true ?_))
      show ((candV l g b).length : Int) = 0
      rw [e.out]; rfl
end Go.Proofs.Ytgdlbpihkodeoaa
