/- TopSentQuery: the law's walk. -/
import Derived.Test.YtgdlbpihkodeoaaWxRunN
import Derived.Test.YtgdlbpihkodeoaaWxFork
namespace Go.Proofs.Ytgdlbpihkodeoaa
open Go.RowKit
set_option maxRecDepth 100000
set_option linter.unusedSimpArgs false

theorem sntV_pos {l : List Cm} {s r : List Bool} {w : List Int} (h : (ngF l s r w).1 = 0) : sntV l s r w = sentP l r w := by
  have e : sntV l s r w = sentP l (endN l s r).2.1 w := if_pos h
  rw [e]
  exact sent_eq (ngF_ok h).1
theorem sntV_neg {l : List Cm} {s r : List Bool} {w : List Int} (h : ¬ (ngF l s r w).1 = 0) : sntV l s r w = [] := if_neg h
theorem rndV_neg {l : List Cm} {s r : List Bool} {w : List Int} (h : ¬ (ngF l s r w).1 = 0) : rndV l s r w = [] := if_neg h
theorem comK_nil : comK [] = .none := rfl
attribute [local irreducible] wrapP joinP comK evR selI sntV rndV in
set_option maxHeartbeats 4000000 in
theorem law_TopSentQuery : SpFact 6 (pureSp false [.slice tCm, .slice .bool, .slice .bool, .slice (.int .i64)] (fun _ => True) (fun _ => .v false [.d .bool true])) := by
  refine ⟨⟨Try.f6, rfl, rfl, rfl, pureSp_ok (env1_fine (sp := [(13, sp_Fork), (21, sp_Run), (22, sp_NF), (18, sp_mlC), (17, sp_Wrap), (16, sp_Join), (19, sp_mlS), (11, sp_Ints3)]) (eq := [])
    (inl := [(18, Try.f18)]) (cl := [83006, 83020])
    ⟨Fork_sp, Run_sp, NF_sp, mlC_sp, Wrap_sp, Join_sp, mlS_sp, Ints3_sp, True.intro⟩ True.intro ⟨⟨rfl, rfl, rfl⟩, True.intro⟩) rfl (fun _ _ => rfl) ?_⟩, pureSp_loc _ _ _ _⟩
  rintro ⟨l, s, r, w, u⟩ ⟨-, -, -, ⟨hwl, -⟩, -⟩ -
  change List Cm at l
  change List Bool at s r
  change List Int at w
  rw [maxLen_eq] at hwl
  have hwl : w.length ≤ 9223372036854775807 := hwl
  by_cases h : (ngF l s r w).1 = 0
  · have e := sntV_pos h
    have ho := (ngF_ok h).1
    have hl := hC_len ho.hc
    have h2 := ho.lr
    have h6 := ho.len
    have h7 := ho.hw
    have hhl := selK_len (fun i => r.getD i false) l.length
    have hhm : ∀ n ∈ selK (fun i => r.getD i false) l.length, 0 ≤ n ∧ n ≤ 59 := fun n hn => by
      obtain ⟨i, i1, i2, i3⟩ := (selK_mem _ _ _).1 hn
      omega
    have q2 : w.length ≤ 60 ∧ ∀ n ∈ w, 0 ≤ n ∧ n ≤ 59 := ⟨h6, fun n hn => by have := (h7 n hn).1; omega⟩
    have q4 : smN ((comK w).at 0) := Qx.smN (by rw [comK_size]; omega)
    have q6 : smN (wrapP 8 ((comK w).at 0)) := by rw [wrapP_at]; exact Qx.smN (by show (comK w).size + 1 ≤ 1000; rw [comK_size]; omega)
    have q5 : smN ((comK (selK (fun i => r.getD i false) l.length)).at 0) := Qx.smN (by rw [comK_size]; omega)
    have fq : joinP 16 (wrapP 8 ((comK w).at 0)) ((comK (selK (fun i => r.getD i false) l.length)).at 0) = (sentQ w (selK (fun i => r.getD i false) l.length)).at 0 := by
      rw [wrapP_at]; exact joinP_at (sentQ_good ho).2.2
    have q7 : (selK (fun i => r.getD i false) l.length).length + w.length ≤ 15 → EvPre l (joinP 16 (wrapP 8 ((comK w).at 0)) ((comK (selK (fun i => r.getD i false) l.length)).at 0)) := fun z => by
      rw [fq]; exact Qx.evPre ho.hc (sentQ_good ho) (by rw [sentQ_size]; omega)
    have q8 : sentP l r w = selI (evR l (joinP 16 (wrapP 8 ((comK w).at 0)) ((comK (selK (fun i => r.getD i false) l.length)).at 0))) := by
      rw [fq, Qx.evR (sentQ_good ho), sentQ_ev ho]
    have q8 : decide (sntV l s r w = selI (evR l (joinP 16 (wrapP 8 ((comK w).at 0)) ((comK (selK (fun i => r.getD i false) l.length)).at 0)))) = true := decide_eq_true (e.trans q8)
    clear fq e h7
    replace h := Lib.hid h
    replace ho := Lib.hid ho
    replace hhm := Lib.hid hhm
    replace q2 := Lib.hid q2
    replace q4 := Lib.hid q4
    replace q5 := Lib.hid q5
    replace q6 := Lib.hid q6
    replace q7 := Lib.hid q7
    replace q8 := Lib.hid q8
    (refine fnM_of rfl rfl rfl rfl ?_; dsimp only [params, argAV, Ty.leaves, Ty.isSt])
    (repeat' (first | (with_reducible refine Cend.go ?_) | (with_reducible refine Step.mk True.intro ?_) | (with_reducible refine Step.mk ?_ ?_; focus (((try simp only [true_and, and_true, and_self, kmin, kmax, decide_eq_true_eq, decide_eq_false_iff_not, castD_self, castL_self, List.length_cons, List.length_nil, List.length_append, Int.natCast_add] at *) <;> omega))) | (with_reducible refine Step.mk ?_ ?_) | (with_reducible refine Way.t1 ?_) | (with_reducible refine Way.f1 ?_) | ((with_reducible refine Way.dec (fun zz => ?_) (fun zz => ?_)) <;> (try simp only [castD_self, castL_self] at zz) <;> try (exfalso; first | omega | contradiction)) | (with_reducible refine Way.nt ?_) | ((with_reducible refine Way.mk (fun _ => ?_) (fun _ => ?_)) <;> try (exfalso; rename_i hw; first | exact Bool.noConfusion ((Go.RowKit.Hid.out h).symm.trans hw) | exact Bool.noConfusion (hw.symm.trans (Go.RowKit.Hid.out h)))) | (with_reducible refine Drawn.mk (by kernel_rfl) ?_) | (refine Run.mk ?_)))
    · exact ho.out
    refine loop_by (X := Nat) (fun x => [.put 0 (.v false [.d (.slice tCm) l]), .put 2 (.v false [.d (.slice .bool) r]), .put 3 (.v false [.d (.slice (.int .i64)) w]), .put 12 (.v false [.d (.slice (.int .i64)) (sntV l s r w)]), .put 14 (.v false [.o 901]), .put 15 (.v false [.d (.int .i64) (x : Int)])])
      (fun x => [.put 901 (.row 3 (.int .i64) (selK (fun i => r.getD i false) x))]) (fun x => x ≤ l.length) (fun x => l.length - x) 0 (Nat.zero_le _) ?_ ?_
    · refine Wk.trans (Wk.nilrow 14 901 3 (.int .i64) rfl) ?_
      (refine Wk.keep ?_ ?_ <;> repeat' (first | exact True.intro | refine And.intro rfl ?_ | refine And.intro (congrArg (fun z : Int => AV.v false [Lf.d (.int .i64) z]) (by first | omega | (simp only [Int.natCast_add, List.length_cons, List.length_append, List.length_nil]; omega))) ?_ | refine And.intro ?_ ?_))
    intro k hk
    by_cases hlt : k < l.length
    · have hlen := selK_len (fun i => r.getD i false) k
      have hst : selK (fun i => r.getD i false) (k + 1) = if r.getD k false then selK (fun i => r.getD i false) k ++ [(k : Int)] else selK (fun i => r.getD i false) k := rfl
      clear q2 q4 q5 q6 q7 q8 hhm
      obtain ⟨a, ha⟩ : ∃ a, selK (fun i => r.getD i false) k = a := ⟨_, rfl⟩
      rw [ha] at hlen hst ⊢
      clear ha
      replace hst := Lib.hid hst
      (repeat' (first | (with_reducible refine Cend.go ?_) | (with_reducible refine Step.mk True.intro ?_) | (with_reducible refine Step.mk ?_ ?_; focus (((try simp only [true_and, and_true, and_self, kmin, kmax, decide_eq_true_eq, decide_eq_false_iff_not, castD_self, castL_self, List.length_cons, List.length_nil, List.length_append, Int.natCast_add] at *) <;> omega))) | (with_reducible refine Step.mk ?_ ?_) | (with_reducible refine Way.t1 ?_) | (with_reducible refine Way.f1 ?_) | ((with_reducible refine Way.dec (fun zz => ?_) (fun zz => ?_)) <;> (try simp only [castD_self, castL_self] at zz) <;> try (exfalso; first | omega | contradiction)) | (with_reducible refine Way.nt ?_) | ((with_reducible refine Way.mk (fun _ => ?_) (fun _ => ?_)) <;> try (exfalso; rename_i hw; first | exact Bool.noConfusion ((Go.RowKit.Hid.out h).symm.trans hw) | exact Bool.noConfusion (hw.symm.trans (Go.RowKit.Hid.out h)))) | (with_reducible refine Drawn.mk (by kernel_rfl) ?_) | (refine Run.mk ?_)))
      · rename_i hx
        have hx : r.getD k false = true := hx
        (refine Back.by (k + 1) ?_ ?_ ?_; focus (refine Wk.ren [(901, 69)] rfl ?_ ?_ <;> repeat' (first | exact True.intro | refine And.intro rfl ?_ | refine And.intro (congrArg (fun z : Int => AV.v false [Lf.d (.int .i64) z]) (by first | omega | (simp only [Int.natCast_add, List.length_cons, List.length_append, List.length_nil]; omega))) ?_ | refine And.intro ?_ ?_)))
        · rw [hst.out, if_pos hx]; exact rfl
        · exact hlt
        · show l.length - (k + 1) < l.length - k; omega
      · rename_i hx
        have hx : r.getD k false = false := hx
        (refine Back.by (k + 1) ?_ ?_ ?_; focus (refine Wk.keep ?_ ?_ <;> repeat' (first | exact True.intro | refine And.intro rfl ?_ | refine And.intro (congrArg (fun z : Int => AV.v false [Lf.d (.int .i64) z]) (by first | omega | (simp only [Int.natCast_add, List.length_cons, List.length_append, List.length_nil]; omega))) ?_ | refine And.intro ?_ ?_)))
        · rw [hst.out, if_neg (by rw [hx]; decide)]; exact rfl
        · exact hlt
        · show l.length - (k + 1) < l.length - k; omega
    · have e : k = l.length := by omega
      subst e
      generalize selK (fun i => r.getD i false) l.length = hv at *
      (repeat' (first | (with_reducible refine Cend.go ?_) | (with_reducible refine Step.mk True.intro ?_) | (with_reducible refine Step.mk ?_ ?_; focus (((try simp only [true_and, and_true, and_self, kmin, kmax, decide_eq_true_eq, decide_eq_false_iff_not, castD_self, castL_self, List.length_cons, List.length_nil, List.length_append, Int.natCast_add] at *) <;> omega))) | (with_reducible refine Step.mk ?_ ?_) | (with_reducible refine Way.t1 ?_) | (with_reducible refine Way.f1 ?_) | ((with_reducible refine Way.dec (fun zz => ?_) (fun zz => ?_)) <;> (try simp only [castD_self, castL_self] at zz) <;> try (exfalso; first | omega | contradiction)) | (with_reducible refine Way.nt ?_) | ((with_reducible refine Way.mk (fun _ => ?_) (fun _ => ?_)) <;> try (exfalso; rename_i hw; first | exact Bool.noConfusion ((Go.RowKit.Hid.out h).symm.trans hw) | exact Bool.noConfusion (hw.symm.trans (Go.RowKit.Hid.out h)))) | (with_reducible refine Drawn.mk (by kernel_rfl) ?_) | (refine Run.mk ?_)))
      · exact Ret.mk rfl
      · exact q2.out
      · exact q4.out
      have hsum : hv.length + w.length ≤ 15 := by
        have hx : ¬ (15 : Int) < (hv.length : Int) + (w.length : Int) := zz
        omega
      clear zz
      show LoopG (cH 4 _) _ _ _ _ _ _ _
      refine loop_by (X := Nat) (fun x => [.put 0 (.v false [.o 901]), .put 2 (.v false [.p 83002 0]), .put 3 (.v false [.p 83003 0]), .put 4 (.v false [.d (.int .i64) (x : Int)]), .mark,
          .put 0 (.v false [.d (.slice tCm) l]), .put 12 (.v false [.d (.slice (.int .i64)) (sntV l s r w)]), .put 77 (.v false [.d (.slice tCm) l]), .put 80 (.v true [.d (.slice tNd) (wrapP 8 ((comK w).at 0))])])
        (fun x => [.put 83002 (.box 42 [.nl]), .put 83003 (.box 42 [.d (.slice tNd) ((comK (hv.take x)).at 0)]), .put 901 (.row 3 (.int .i64) hv)]) (fun x => x ≤ hv.length) (fun x => hv.length - x) 0 (Nat.zero_le _) ?_ ?_
      · (refine Wk.keep ?_ ?_ <;> repeat' (first | exact True.intro | refine And.intro rfl ?_ | refine And.intro (congrArg (fun z : Int => AV.v false [Lf.d (.int .i64) z]) (by first | omega | (simp only [Int.natCast_add, List.length_cons, List.length_append, List.length_nil]; omega))) ?_ | refine And.intro ?_ ?_))
        rw [List.take_zero, comK_nil]; exact rfl
      intro q hq
      by_cases hlq : q < hv.length
      · have hg : hv.getD ((q : Int)).toNat (Ty.int .i64).dflt = hv[q] := getD_of _ hlq
        have hst := comK_take hlq
        have hgd := hhm.out _ (List.getElem_mem hlq)
        have hsz := comK_size (hv.take q)
        have hs1 : smN ((comK (hv.take q)).at 0) := Qx.smN (by rw [hsz, List.length_take]; omega)
        rw [← hg] at hst hgd
        have hs2 : smN [(3, hv.getD ((q : Int)).toNat (Ty.int .i64).dflt, 0, 0)] := Qx.smN (t := .com _) (by show 1 ≤ 1000; decide)
        have hj : joinP 14 ((comK (hv.take q)).at 0) [(3, hv.getD ((q : Int)).toNat (Ty.int .i64).dflt, 0, 0)] = (comK (hv.take (q + 1))).at 0 := by
          rw [hst]; exact joinP_at (y := .com _) hgd
        clear hg hst hgd hsz q2 q4 q5 q6 q7 q8
        replace hs1 := Lib.hid hs1
        replace hs2 := Lib.hid hs2
        replace hj := Lib.hid hj
        (repeat' (first | (with_reducible refine Cend.go ?_) | (with_reducible refine Step.mk True.intro ?_) | (with_reducible refine Step.mk ?_ ?_; focus (((try simp only [true_and, and_true, and_self, kmin, kmax, decide_eq_true_eq, decide_eq_false_iff_not, castD_self, castL_self, List.length_cons, List.length_nil, List.length_append, Int.natCast_add] at *) <;> omega))) | (with_reducible refine Step.mk ?_ ?_) | (with_reducible refine Way.t1 ?_) | (with_reducible refine Way.f1 ?_) | ((with_reducible refine Way.dec (fun zz => ?_) (fun zz => ?_)) <;> (try simp only [castD_self, castL_self] at zz) <;> try (exfalso; first | omega | contradiction)) | (with_reducible refine Way.nt ?_) | ((with_reducible refine Way.mk (fun _ => ?_) (fun _ => ?_)) <;> try (exfalso; rename_i hw; first | exact Bool.noConfusion ((Go.RowKit.Hid.out h).symm.trans hw) | exact Bool.noConfusion (hw.symm.trans (Go.RowKit.Hid.out h)))) | (with_reducible refine Drawn.mk (by kernel_rfl) ?_) | (refine Run.mk ?_)))
        · exact ⟨hs1.out, hs2.out⟩
        · (refine Back.by (q + 1) ?_ ?_ ?_; focus (refine Wk.keep ?_ ?_ <;> repeat' (first | exact True.intro | refine And.intro rfl ?_ | refine And.intro (congrArg (fun z : Int => AV.v false [Lf.d (.int .i64) z]) (by first | omega | (simp only [Int.natCast_add, List.length_cons, List.length_append, List.length_nil]; omega))) ?_ | refine And.intro ?_ ?_)))
          · rw [← hj.out]; exact rfl
          · exact hlq
          · show hv.length - (q + 1) < hv.length - q; omega
      · have e : hv.take q = hv := List.take_of_length_le (by omega)
        rw [e]
        (repeat' (first | (with_reducible refine Cend.go ?_) | (with_reducible refine Step.mk True.intro ?_) | (with_reducible refine Step.mk ?_ ?_; focus (((try simp only [true_and, and_true, and_self, kmin, kmax, decide_eq_true_eq, decide_eq_false_iff_not, castD_self, castL_self, List.length_cons, List.length_nil, List.length_append, Int.natCast_add] at *) <;> omega))) | (with_reducible refine Step.mk ?_ ?_) | (with_reducible refine Way.t1 ?_) | (with_reducible refine Way.f1 ?_) | ((with_reducible refine Way.dec (fun zz => ?_) (fun zz => ?_)) <;> (try simp only [castD_self, castL_self] at zz) <;> try (exfalso; first | omega | contradiction)) | (with_reducible refine Way.nt ?_) | ((with_reducible refine Way.mk (fun _ => ?_) (fun _ => ?_)) <;> try (exfalso; rename_i hw; first | exact Bool.noConfusion ((Go.RowKit.Hid.out h).symm.trans hw) | exact Bool.noConfusion (hw.symm.trans (Go.RowKit.Hid.out h)))) | (with_reducible refine Drawn.mk (by kernel_rfl) ?_) | (refine Run.mk ?_)))
        · exact ⟨q6.out, q5.out⟩
        · exact q7.out hsum
        · exact Ret.mk (congrArg (fun b => AV.v false [Lf.d .bool b]) q8.out)
  · have e1 := sntV_neg h
    have e2 := rndV_neg h
    replace h := Lib.hid h
    replace e1 := Lib.hid e1
    replace e2 := Lib.hid e2
    (refine fnM_of rfl rfl rfl rfl ?_; dsimp only [params, argAV, Ty.leaves, Ty.isSt])
    (repeat' (first | (with_reducible refine Cend.go ?_) | (with_reducible refine Step.mk True.intro ?_) | (with_reducible refine Step.mk ?_ ?_; focus (((try simp only [true_and, and_true, and_self, kmin, kmax, decide_eq_true_eq, decide_eq_false_iff_not, castD_self, castL_self, List.length_cons, List.length_nil, List.length_append, Int.natCast_add] at *) <;> omega))) | (with_reducible refine Step.mk ?_ ?_) | (with_reducible refine Way.t1 ?_) | (with_reducible refine Way.f1 ?_) | ((with_reducible refine Way.dec (fun zz => ?_) (fun zz => ?_)) <;> (try simp only [castD_self, castL_self] at zz) <;> try (exfalso; first | omega | contradiction)) | (with_reducible refine Way.nt ?_) | ((with_reducible refine Way.mk (fun _ => ?_) (fun _ => ?_)) <;> try (exfalso; rename_i hw; first | exact Bool.noConfusion ((Go.RowKit.Hid.out h).symm.trans hw) | exact Bool.noConfusion (hw.symm.trans (Go.RowKit.Hid.out h)))) | (with_reducible refine Drawn.mk (by kernel_rfl) ?_) | (refine Run.mk ?_)))
    · show ((rndV l s r w).length : Int) ≤ 9223372036854775807
      rw [e2.out]; decide
    · show ((sntV l s r w).length : Int) ≤ 9223372036854775807
      rw [e1.out]; decide
    · show (-9223372036854775808 : Int) ≤ ((rndV l s r w).length : Int) + ((sntV l s r w).length : Int) ∧ ((rndV l s r w).length : Int) + ((sntV l s r w).length : Int) ≤ 9223372036854775807
      rw [e1.out, e2.out]; decide
    · refine Ret.mk (congrArg (fun b => AV.v false [Lf.d .bool b]) (decide_eq_true ?_))
      show ((rndV l s r w).length : Int) + ((sntV l s r w).length : Int) = 0
      rw [e1.out, e2.out]; rfl
end Go.Proofs.Ytgdlbpihkodeoaa
