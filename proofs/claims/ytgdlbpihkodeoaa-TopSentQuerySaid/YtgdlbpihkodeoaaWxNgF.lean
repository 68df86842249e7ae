/- The fourth reference's NegotiateFault, where the arguments are valid. -/
import Derived.Test.YtgdlbpihkodeoaaWxNeg
namespace Go.Proofs.Ytgdlbpihkodeoaa
open Go.RowKit
set_option maxRecDepth 20000
set_option linter.unusedSimpArgs false

def sp_NF : SpecF := pureSp false [.slice tCm, .slice .bool, .slice .bool, .slice (.int .i64)] (fun (l', s', r', w', _) => ngOk l' s' r' w') (fun _ => .v true [.d (.int .i64) 0, .d (.int .i64) 0])
set_option maxHeartbeats 1000000 in
theorem NF_sp : SpFact 22 sp_NF := by
  refine ⟨⟨Try.f22, rfl, rfl, rfl, pureSp_ok (env_fine (sp := [(37, sp_HF), (9, sp_InT)]) (eq := []) ⟨HF_sp, InT_sp, True.intro⟩ True.intro) rfl (fun _ _ => rfl) ?_⟩, pureSp_loc _ _ _ _⟩
  rintro ⟨l, s, r, w, u⟩ - hk
  change List Cm at l
  change List Bool at s r
  change List Int at w
  have hk : ngOk l s r w := hk
  obtain ⟨h1, h2, h3, h4, h5, h6, h7⟩ := hk
  have hl := hC_len h1
  have hp := parOk_of h1
  have hb := hC_par h1
  replace h1 := Lib.hid h1
  replace hp := Lib.hid hp
  replace hb := Lib.hid hb
  replace h4 := Lib.hid h4
  replace h5 := Lib.hid h5
  replace h7 := Lib.hid h7
  (refine fnM_of rfl rfl rfl rfl ?_; dsimp only [params, argAV, Ty.leaves, Ty.isSt])
  (repeat' (first | (with_reducible refine Cend.go ?_) | (with_reducible refine Step.mk True.intro ?_) | (with_reducible refine Step.mk ?_ ?_; focus (((try simp only [true_and, and_true, and_self, kmin, kmax, decide_eq_true_eq, decide_eq_false_iff_not, castD_self, castL_self, List.length_cons, List.length_nil, List.length_append, Int.natCast_add] at *) <;> omega))) | (with_reducible refine Step.mk ?_ ?_) | (with_reducible refine Way.t1 ?_) | (with_reducible refine Way.f1 ?_) | ((with_reducible refine Way.dec (fun _ => ?_) (fun _ => ?_)) <;> try (exfalso; omega)) | (with_reducible refine Way.nt ?_) | (with_reducible refine Way.mk (fun _ => ?_) (fun _ => ?_)) | (with_reducible refine Drawn.mk (by kernel_rfl) ?_) | (refine Run.mk ?_)))
  · exact h1.out
  refine loop_by (X := Nat) (fun x => [.put 0 (.v false [.d (.slice tCm) l]), .put 1 (.v false [.d (.slice .bool) s]), .put 2 (.v false [.d (.slice .bool) r]), .put 3 (.v false [.d (.slice (.int .i64)) w]), .put 8 (.v false [.p 8 0]), .put 10 (.v false [.d (.int .i64) (x : Int)])])
    (fun x => [.put 8 (.box 24 [.d (.int .i64) 0, .d (.int .i64) 0])]) (fun x => x ≤ l.length) (fun x => l.length - x) 0 (Nat.zero_le _) ?_ ?_
  · (refine Wk.keep ?_ ?_ <;> repeat' (first | exact True.intro | refine And.intro rfl ?_ | refine And.intro (congrArg (fun z : Int => AV.v false [Lf.d (.int .i64) z]) (by first | omega | (simp only [Int.natCast_add, List.length_cons, List.length_append, List.length_nil]; omega))) ?_ | refine And.intro ?_ ?_))
  intro k hk
  by_cases hlt : k < l.length
  · have hg : l.getD ((k : Int)).toNat tCm.dflt = l[k] := getD_of _ hlt
    have hcl := h4.out k hlt
    have hpr := hp.out k hlt
    have hpl := hb.out _ (List.getElem_mem hlt)
    rw [← hg] at hcl hpr hpl
    clear hg
    replace hcl := Lib.hid hcl
    replace hpr := Lib.hid hpr
    (repeat' (first | (with_reducible refine Cend.go ?_) | (with_reducible refine Step.mk True.intro ?_) | (with_reducible refine Step.mk ?_ ?_; focus (((try simp only [true_and, and_true, and_self, kmin, kmax, decide_eq_true_eq, decide_eq_false_iff_not, castD_self, castL_self, List.length_cons, List.length_nil, List.length_append, Int.natCast_add] at *) <;> omega))) | (with_reducible refine Step.mk ?_ ?_) | (with_reducible refine Way.t1 ?_) | (with_reducible refine Way.f1 ?_) | ((with_reducible refine Way.dec (fun _ => ?_) (fun _ => ?_)) <;> try (exfalso; omega)) | (with_reducible refine Way.nt ?_) | (with_reducible refine Way.mk (fun _ => ?_) (fun _ => ?_)) | (with_reducible refine Drawn.mk (by kernel_rfl) ?_) | (refine Run.mk ?_)))
    refine loop_by (X := Nat) (fun x => [.put 0 (.v false [.d (.slice tCm) l]), .put 1 (.v false [.d (.slice .bool) s]), .put 2 (.v false [.d (.slice .bool) r]), .put 3 (.v false [.d (.slice (.int .i64)) w]), .put 8 (.v false [.p 8 0]), .put 10 (.v false [.d (.int .i64) (k : Int)]), .put 11 (.v false [.d (.int .i64) (x : Int)])])
      (fun x => [.put 8 (.box 24 [.d (.int .i64) 0, .d (.int .i64) 0])]) (fun x => x ≤ (l.getD ((k : Int)).toNat tCm.dflt).1.length) (fun x => (l.getD ((k : Int)).toNat tCm.dflt).1.length - x) 0 (Nat.zero_le _) ?_ ?_
    · (refine Wk.keep ?_ ?_ <;> repeat' (first | exact True.intro | refine And.intro rfl ?_ | refine And.intro (congrArg (fun z : Int => AV.v false [Lf.d (.int .i64) z]) (by first | omega | (simp only [Int.natCast_add, List.length_cons, List.length_append, List.length_nil]; omega))) ?_ | refine And.intro ?_ ?_))
    intro q hq
    by_cases hlq : q < (l.getD ((k : Int)).toNat tCm.dflt).1.length
    · have hg : (l.getD ((k : Int)).toNat tCm.dflt).1.getD ((q : Int)).toNat (Ty.int .i64).dflt = (l.getD ((k : Int)).toNat tCm.dflt).1[q] := getD_of _ hlq
      obtain ⟨m0, m1⟩ := hpr.out _ (List.getElem_mem hlq)
      have hcq := fun z => hcl.out z _ (List.getElem_mem hlq)
      rw [← hg] at m0 m1 hcq
      clear hg
      cases hsk : s.getD k false with
      | true =>
        have hn : s.getD ((k : Int)).toNat Ty.bool.dflt = true := hsk
        have hn2 : s.getD (Int.toNat ((l.getD ((k : Int)).toNat tCm.dflt).1.getD ((q : Int)).toNat (Ty.int .i64).dflt)) Ty.bool.dflt = true := hcq hsk
        replace hn := Lib.hid hn
        replace hn2 := Lib.hid hn2
        clear hcq hsk
        (repeat' (first | (with_reducible refine Cend.go ?_) | (with_reducible refine Step.mk True.intro ?_) | (with_reducible refine Step.mk ?_ ?_; focus (((try simp only [true_and, and_true, and_self, kmin, kmax, decide_eq_true_eq, decide_eq_false_iff_not, castD_self, castL_self, List.length_cons, List.length_nil, List.length_append, Int.natCast_add] at *) <;> omega))) | (with_reducible refine Step.mk ?_ ?_) | (with_reducible refine Way.t1 ?_) | (with_reducible refine Way.f1 ?_) | ((with_reducible refine Way.dec (fun zz => ?_) (fun zz => ?_)) <;> (try simp only [castD_self, castL_self] at zz) <;> try (exfalso; first | omega | contradiction)) | (with_reducible refine Way.nt ?_) | ((with_reducible refine Way.mk (fun _ => ?_) (fun _ => ?_)) <;> try (exfalso; rename_i hw; first | exact Bool.noConfusion ((Go.RowKit.Hid.out hn).symm.trans hw) | exact Bool.noConfusion (hw.symm.trans (Go.RowKit.Hid.out hn)) | exact Bool.noConfusion ((Go.RowKit.Hid.out hn2).symm.trans hw) | exact Bool.noConfusion (hw.symm.trans (Go.RowKit.Hid.out hn2)) | exact Bool.noConfusion ((Go.RowKit.Hid.out hn2).symm.trans hw) | exact Bool.noConfusion (hw.symm.trans (Go.RowKit.Hid.out hn2)))) | (with_reducible refine Drawn.mk (by kernel_rfl) ?_) | (refine Run.mk ?_)))
        (refine Back.by (q + 1) ?_ ?_ ?_; focus (refine Wk.keep ?_ ?_ <;> repeat' (first | exact True.intro | refine And.intro rfl ?_ | refine And.intro (congrArg (fun z : Int => AV.v false [Lf.d (.int .i64) z]) (by first | omega | (simp only [Int.natCast_add, List.length_cons, List.length_append, List.length_nil]; omega))) ?_ | refine And.intro ?_ ?_)))
        · exact hlq
        · show (l.getD ((k : Int)).toNat tCm.dflt).1.length - (q + 1) < (l.getD ((k : Int)).toNat tCm.dflt).1.length - q; omega
      | false =>
        have hn : s.getD ((k : Int)).toNat Ty.bool.dflt = false := hsk
        replace hn := Lib.hid hn
        clear hcq hsk
        (repeat' (first | (with_reducible refine Cend.go ?_) | (with_reducible refine Step.mk True.intro ?_) | (with_reducible refine Step.mk ?_ ?_; focus (((try simp only [true_and, and_true, and_self, kmin, kmax, decide_eq_true_eq, decide_eq_false_iff_not, castD_self, castL_self, List.length_cons, List.length_nil, List.length_append, Int.natCast_add] at *) <;> omega))) | (with_reducible refine Step.mk ?_ ?_) | (with_reducible refine Way.t1 ?_) | (with_reducible refine Way.f1 ?_) | ((with_reducible refine Way.dec (fun zz => ?_) (fun zz => ?_)) <;> (try simp only [castD_self, castL_self] at zz) <;> try (exfalso; first | omega | contradiction)) | (with_reducible refine Way.nt ?_) | ((with_reducible refine Way.mk (fun _ => ?_) (fun _ => ?_)) <;> try (exfalso; rename_i hw; first | exact Bool.noConfusion ((Go.RowKit.Hid.out hn).symm.trans hw) | exact Bool.noConfusion (hw.symm.trans (Go.RowKit.Hid.out hn)) | exact Bool.noConfusion ((Go.RowKit.Hid.out hn).symm.trans hw) | exact Bool.noConfusion (hw.symm.trans (Go.RowKit.Hid.out hn)) | exact Bool.noConfusion ((Go.RowKit.Hid.out hn).symm.trans hw) | exact Bool.noConfusion (hw.symm.trans (Go.RowKit.Hid.out hn)))) | (with_reducible refine Drawn.mk (by kernel_rfl) ?_) | (refine Run.mk ?_)))
        (refine Back.by (k + 1) ?_ ?_ ?_; focus (refine Wk.keep ?_ ?_ <;> repeat' (first | exact True.intro | refine And.intro rfl ?_ | refine And.intro (congrArg (fun z : Int => AV.v false [Lf.d (.int .i64) z]) (by first | omega | (simp only [Int.natCast_add, List.length_cons, List.length_append, List.length_nil]; omega))) ?_ | refine And.intro ?_ ?_)))
        · exact hlt
        · show l.length - (k + 1) < l.length - k; omega
    · (repeat' (first | (with_reducible refine Cend.go ?_) | (with_reducible refine Step.mk True.intro ?_) | (with_reducible refine Step.mk ?_ ?_; focus (((try simp only [true_and, and_true, and_self, kmin, kmax, decide_eq_true_eq, decide_eq_false_iff_not, castD_self, castL_self, List.length_cons, List.length_nil, List.length_append, Int.natCast_add] at *) <;> omega))) | (with_reducible refine Step.mk ?_ ?_) | (with_reducible refine Way.t1 ?_) | (with_reducible refine Way.f1 ?_) | ((with_reducible refine Way.dec (fun _ => ?_) (fun _ => ?_)) <;> try (exfalso; omega)) | (with_reducible refine Way.nt ?_) | (with_reducible refine Way.mk (fun _ => ?_) (fun _ => ?_)) | (with_reducible refine Drawn.mk (by kernel_rfl) ?_) | (refine Run.mk ?_)))
      (refine Back.by (k + 1) ?_ ?_ ?_; focus (refine Wk.keep ?_ ?_ <;> repeat' (first | exact True.intro | refine And.intro rfl ?_ | refine And.intro (congrArg (fun z : Int => AV.v false [Lf.d (.int .i64) z]) (by first | omega | (simp only [Int.natCast_add, List.length_cons, List.length_append, List.length_nil]; omega))) ?_ | refine And.intro ?_ ?_)))
      · exact hlt
      · show l.length - (k + 1) < l.length - k; omega
  · (repeat' (first | (with_reducible refine Cend.go ?_) | (with_reducible refine Step.mk True.intro ?_) | (with_reducible refine Step.mk ?_ ?_; focus (((try simp only [true_and, and_true, and_self, kmin, kmax, decide_eq_true_eq, decide_eq_false_iff_not, castD_self, castL_self, List.length_cons, List.length_nil, List.length_append, Int.natCast_add] at *) <;> omega))) | (with_reducible refine Step.mk ?_ ?_) | (with_reducible refine Way.t1 ?_) | (with_reducible refine Way.f1 ?_) | ((with_reducible refine Way.dec (fun _ => ?_) (fun _ => ?_)) <;> try (exfalso; omega)) | (with_reducible refine Way.nt ?_) | (with_reducible refine Way.mk (fun _ => ?_) (fun _ => ?_)) | (with_reducible refine Drawn.mk (by kernel_rfl) ?_) | (refine Run.mk ?_)))
    refine loop_by (X := Nat) (fun x => [.put 0 (.v false [.d (.slice tCm) l]), .put 1 (.v false [.d (.slice .bool) s]), .put 2 (.v false [.d (.slice .bool) r]), .put 3 (.v false [.d (.slice (.int .i64)) w]), .put 8 (.v false [.p 8 0]), .put 12 (.v false [.d (.int .i64) (x : Int)])])
      (fun x => [.put 8 (.box 24 [.d (.int .i64) 0, .d (.int .i64) 0])]) (fun x => x ≤ l.length) (fun x => l.length - x) 0 (Nat.zero_le _) ?_ ?_
    · (refine Wk.keep ?_ ?_ <;> repeat' (first | exact True.intro | refine And.intro rfl ?_ | refine And.intro (congrArg (fun z : Int => AV.v false [Lf.d (.int .i64) z]) (by first | omega | (simp only [Int.natCast_add, List.length_cons, List.length_append, List.length_nil]; omega))) ?_ | refine And.intro ?_ ?_))
    intro k hk
    by_cases hlt : k < l.length
    · have hg : l.getD ((k : Int)).toNat tCm.dflt = l[k] := getD_of _ hlt
      have hcl := h5.out k hlt
      have hpr := hp.out k hlt
      have hpl := hb.out _ (List.getElem_mem hlt)
      rw [← hg] at hcl hpr hpl
      clear hg
      replace hcl := Lib.hid hcl
      replace hpr := Lib.hid hpr
      (repeat' (first | (with_reducible refine Cend.go ?_) | (with_reducible refine Step.mk True.intro ?_) | (with_reducible refine Step.mk ?_ ?_; focus (((try simp only [true_and, and_true, and_self, kmin, kmax, decide_eq_true_eq, decide_eq_false_iff_not, castD_self, castL_self, List.length_cons, List.length_nil, List.length_append, Int.natCast_add] at *) <;> omega))) | (with_reducible refine Step.mk ?_ ?_) | (with_reducible refine Way.t1 ?_) | (with_reducible refine Way.f1 ?_) | ((with_reducible refine Way.dec (fun _ => ?_) (fun _ => ?_)) <;> try (exfalso; omega)) | (with_reducible refine Way.nt ?_) | (with_reducible refine Way.mk (fun _ => ?_) (fun _ => ?_)) | (with_reducible refine Drawn.mk (by kernel_rfl) ?_) | (refine Run.mk ?_)))
      refine loop_by (X := Nat) (fun x => [.put 0 (.v false [.d (.slice tCm) l]), .put 1 (.v false [.d (.slice .bool) s]), .put 2 (.v false [.d (.slice .bool) r]), .put 3 (.v false [.d (.slice (.int .i64)) w]), .put 8 (.v false [.p 8 0]), .put 12 (.v false [.d (.int .i64) (k : Int)]), .put 13 (.v false [.d (.int .i64) (x : Int)])])
        (fun x => [.put 8 (.box 24 [.d (.int .i64) 0, .d (.int .i64) 0])]) (fun x => x ≤ (l.getD ((k : Int)).toNat tCm.dflt).1.length) (fun x => (l.getD ((k : Int)).toNat tCm.dflt).1.length - x) 0 (Nat.zero_le _) ?_ ?_
      · (refine Wk.keep ?_ ?_ <;> repeat' (first | exact True.intro | refine And.intro rfl ?_ | refine And.intro (congrArg (fun z : Int => AV.v false [Lf.d (.int .i64) z]) (by first | omega | (simp only [Int.natCast_add, List.length_cons, List.length_append, List.length_nil]; omega))) ?_ | refine And.intro ?_ ?_))
      intro q hq
      by_cases hlq : q < (l.getD ((k : Int)).toNat tCm.dflt).1.length
      · have hg : (l.getD ((k : Int)).toNat tCm.dflt).1.getD ((q : Int)).toNat (Ty.int .i64).dflt = (l.getD ((k : Int)).toNat tCm.dflt).1[q] := getD_of _ hlq
        obtain ⟨m0, m1⟩ := hpr.out _ (List.getElem_mem hlq)
        have hcq := fun z => hcl.out z _ (List.getElem_mem hlq)
        rw [← hg] at m0 m1 hcq
        clear hg
        cases hsk : r.getD k false with
        | true =>
          have hn : r.getD ((k : Int)).toNat Ty.bool.dflt = true := hsk
          have hn2 : r.getD (Int.toNat ((l.getD ((k : Int)).toNat tCm.dflt).1.getD ((q : Int)).toNat (Ty.int .i64).dflt)) Ty.bool.dflt = true := hcq hsk
          replace hn := Lib.hid hn
          replace hn2 := Lib.hid hn2
          clear hcq hsk
          (repeat' (first | (with_reducible refine Cend.go ?_) | (with_reducible refine Step.mk True.intro ?_) | (with_reducible refine Step.mk ?_ ?_; focus (((try simp only [true_and, and_true, and_self, kmin, kmax, decide_eq_true_eq, decide_eq_false_iff_not, castD_self, castL_self, List.length_cons, List.length_nil, List.length_append, Int.natCast_add] at *) <;> omega))) | (with_reducible refine Step.mk ?_ ?_) | (with_reducible refine Way.t1 ?_) | (with_reducible refine Way.f1 ?_) | ((with_reducible refine Way.dec (fun zz => ?_) (fun zz => ?_)) <;> (try simp only [castD_self, castL_self] at zz) <;> try (exfalso; first | omega | contradiction)) | (with_reducible refine Way.nt ?_) | ((with_reducible refine Way.mk (fun _ => ?_) (fun _ => ?_)) <;> try (exfalso; rename_i hw; first | exact Bool.noConfusion ((Go.RowKit.Hid.out hn).symm.trans hw) | exact Bool.noConfusion (hw.symm.trans (Go.RowKit.Hid.out hn)) | exact Bool.noConfusion ((Go.RowKit.Hid.out hn2).symm.trans hw) | exact Bool.noConfusion (hw.symm.trans (Go.RowKit.Hid.out hn2)) | exact Bool.noConfusion ((Go.RowKit.Hid.out hn2).symm.trans hw) | exact Bool.noConfusion (hw.symm.trans (Go.RowKit.Hid.out hn2)))) | (with_reducible refine Drawn.mk (by kernel_rfl) ?_) | (refine Run.mk ?_)))
          (refine Back.by (q + 1) ?_ ?_ ?_; focus (refine Wk.keep ?_ ?_ <;> repeat' (first | exact True.intro | refine And.intro rfl ?_ | refine And.intro (congrArg (fun z : Int => AV.v false [Lf.d (.int .i64) z]) (by first | omega | (simp only [Int.natCast_add, List.length_cons, List.length_append, List.length_nil]; omega))) ?_ | refine And.intro ?_ ?_)))
          · exact hlq
          · show (l.getD ((k : Int)).toNat tCm.dflt).1.length - (q + 1) < (l.getD ((k : Int)).toNat tCm.dflt).1.length - q; omega
        | false =>
          have hn : r.getD ((k : Int)).toNat Ty.bool.dflt = false := hsk
          replace hn := Lib.hid hn
          clear hcq hsk
          (repeat' (first | (with_reducible refine Cend.go ?_) | (with_reducible refine Step.mk True.intro ?_) | (with_reducible refine Step.mk ?_ ?_; focus (((try simp only [true_and, and_true, and_self, kmin, kmax, decide_eq_true_eq, decide_eq_false_iff_not, castD_self, castL_self, List.length_cons, List.length_nil, List.length_append, Int.natCast_add] at *) <;> omega))) | (with_reducible refine Step.mk ?_ ?_) | (with_reducible refine Way.t1 ?_) | (with_reducible refine Way.f1 ?_) | ((with_reducible refine Way.dec (fun zz => ?_) (fun zz => ?_)) <;> (try simp only [castD_self, castL_self] at zz) <;> try (exfalso; first | omega | contradiction)) | (with_reducible refine Way.nt ?_) | ((with_reducible refine Way.mk (fun _ => ?_) (fun _ => ?_)) <;> try (exfalso; rename_i hw; first | exact Bool.noConfusion ((Go.RowKit.Hid.out hn).symm.trans hw) | exact Bool.noConfusion (hw.symm.trans (Go.RowKit.Hid.out hn)) | exact Bool.noConfusion ((Go.RowKit.Hid.out hn).symm.trans hw) | exact Bool.noConfusion (hw.symm.trans (Go.RowKit.Hid.out hn)) | exact Bool.noConfusion ((Go.RowKit.Hid.out hn).symm.trans hw) | exact Bool.noConfusion (hw.symm.trans (Go.RowKit.Hid.out hn)))) | (with_reducible refine Drawn.mk (by kernel_rfl) ?_) | (refine Run.mk ?_)))
          (refine Back.by (k + 1) ?_ ?_ ?_; focus (refine Wk.keep ?_ ?_ <;> repeat' (first | exact True.intro | refine And.intro rfl ?_ | refine And.intro (congrArg (fun z : Int => AV.v false [Lf.d (.int .i64) z]) (by first | omega | (simp only [Int.natCast_add, List.length_cons, List.length_append, List.length_nil]; omega))) ?_ | refine And.intro ?_ ?_)))
          · exact hlt
          · show l.length - (k + 1) < l.length - k; omega
      · (repeat' (first | (with_reducible refine Cend.go ?_) | (with_reducible refine Step.mk True.intro ?_) | (with_reducible refine Step.mk ?_ ?_; focus (((try simp only [true_and, and_true, and_self, kmin, kmax, decide_eq_true_eq, decide_eq_false_iff_not, castD_self, castL_self, List.length_cons, List.length_nil, List.length_append, Int.natCast_add] at *) <;> omega))) | (with_reducible refine Step.mk ?_ ?_) | (with_reducible refine Way.t1 ?_) | (with_reducible refine Way.f1 ?_) | ((with_reducible refine Way.dec (fun _ => ?_) (fun _ => ?_)) <;> try (exfalso; omega)) | (with_reducible refine Way.nt ?_) | (with_reducible refine Way.mk (fun _ => ?_) (fun _ => ?_)) | (with_reducible refine Drawn.mk (by kernel_rfl) ?_) | (refine Run.mk ?_)))
        (refine Back.by (k + 1) ?_ ?_ ?_; focus (refine Wk.keep ?_ ?_ <;> repeat' (first | exact True.intro | refine And.intro rfl ?_ | refine And.intro (congrArg (fun z : Int => AV.v false [Lf.d (.int .i64) z]) (by first | omega | (simp only [Int.natCast_add, List.length_cons, List.length_append, List.length_nil]; omega))) ?_ | refine And.intro ?_ ?_)))
        · exact hlt
        · show l.length - (k + 1) < l.length - k; omega
    · (repeat' (first | (with_reducible refine Cend.go ?_) | (with_reducible refine Step.mk True.intro ?_) | (with_reducible refine Step.mk ?_ ?_; focus (((try simp only [true_and, and_true, and_self, kmin, kmax, decide_eq_true_eq, decide_eq_false_iff_not, castD_self, castL_self, List.length_cons, List.length_nil, List.length_append, Int.natCast_add] at *) <;> omega))) | (with_reducible refine Step.mk ?_ ?_) | (with_reducible refine Way.t1 ?_) | (with_reducible refine Way.f1 ?_) | ((with_reducible refine Way.dec (fun _ => ?_) (fun _ => ?_)) <;> try (exfalso; omega)) | (with_reducible refine Way.nt ?_) | (with_reducible refine Way.mk (fun _ => ?_) (fun _ => ?_)) | (with_reducible refine Drawn.mk (by kernel_rfl) ?_) | (refine Run.mk ?_)))
      refine loop_by (X := Nat) (fun x => [.put 0 (.v false [.d (.slice tCm) l]), .put 1 (.v false [.d (.slice .bool) s]), .put 3 (.v false [.d (.slice (.int .i64)) w]), .put 8 (.v false [.p 8 0]), .put 14 (.v false [.d (.int .i64) (x : Int)])])
        (fun x => [.put 8 (.box 24 [.d (.int .i64) 0, .d (.int .i64) 0])]) (fun x => x ≤ w.length) (fun x => w.length - x) 0 (Nat.zero_le _) ?_ ?_
      · (refine Wk.keep ?_ ?_ <;> repeat' (first | exact True.intro | refine And.intro rfl ?_ | refine And.intro (congrArg (fun z : Int => AV.v false [Lf.d (.int .i64) z]) (by first | omega | (simp only [Int.natCast_add, List.length_cons, List.length_append, List.length_nil]; omega))) ?_ | refine And.intro ?_ ?_))
      intro k hk
      by_cases hlt : k < w.length
      · have hgk : w.getD ((k : Int)).toNat (Ty.int .i64).dflt = w[k] := getD_of _ hlt
        obtain ⟨⟨m0, m1⟩, m2⟩ := h7.out _ (List.getElem_mem hlt)
        rw [← hgk] at m0 m1 m2
        clear hgk
        have m2 : s.getD (Int.toNat (w.getD ((k : Int)).toNat (Ty.int .i64).dflt)) Ty.bool.dflt = true := m2
        replace m2 := Lib.hid m2
        (repeat' (first | (with_reducible refine Cend.go ?_) | (with_reducible refine Step.mk True.intro ?_) | (with_reducible refine Step.mk ?_ ?_; focus (((try simp only [true_and, and_true, and_self, kmin, kmax, decide_eq_true_eq, decide_eq_false_iff_not, castD_self, castL_self, List.length_cons, List.length_nil, List.length_append, Int.natCast_add] at *) <;> omega))) | (with_reducible refine Step.mk ?_ ?_) | (with_reducible refine Way.t1 ?_) | (with_reducible refine Way.f1 ?_) | ((with_reducible refine Way.dec (fun _ => ?_) (fun _ => ?_)) <;> try (exfalso; omega)) | (with_reducible refine Way.nt ?_) | ((with_reducible refine Way.mk (fun _ => ?_) (fun _ => ?_)) <;> try (exfalso; rename_i hw; first | exact Bool.noConfusion ((Go.RowKit.Hid.out m2).symm.trans hw) | exact Bool.noConfusion (hw.symm.trans (Go.RowKit.Hid.out m2)))) | (with_reducible refine Drawn.mk (by kernel_rfl) ?_) | (refine Run.mk ?_)))
        · show (0 : Int) ≤ w.getD ((k : Int)).toNat (Ty.int .i64).dflt ∧ w.getD ((k : Int)).toNat (Ty.int .i64).dflt ≤ (l.length : Int) - 1; omega
        · (refine Back.by (k + 1) ?_ ?_ ?_; focus (refine Wk.keep ?_ ?_ <;> repeat' (first | exact True.intro | refine And.intro rfl ?_ | refine And.intro (congrArg (fun z : Int => AV.v false [Lf.d (.int .i64) z]) (by first | omega | (simp only [Int.natCast_add, List.length_cons, List.length_append, List.length_nil]; omega))) ?_ | refine And.intro ?_ ?_)))
          · exact hlt
          · show w.length - (k + 1) < w.length - k; omega
      · (repeat' (first | (with_reducible refine Cend.go ?_) | (with_reducible refine Step.mk True.intro ?_) | (with_reducible refine Step.mk ?_ ?_; focus (((try simp only [true_and, and_true, and_self, kmin, kmax, decide_eq_true_eq, decide_eq_false_iff_not, castD_self, castL_self, List.length_cons, List.length_nil, List.length_append, Int.natCast_add] at *) <;> omega))) | (with_reducible refine Step.mk ?_ ?_) | (with_reducible refine Way.t1 ?_) | (with_reducible refine Way.f1 ?_) | ((with_reducible refine Way.dec (fun _ => ?_) (fun _ => ?_)) <;> try (exfalso; omega)) | (with_reducible refine Way.nt ?_) | (with_reducible refine Way.mk (fun _ => ?_) (fun _ => ?_)) | (with_reducible refine Drawn.mk (by kernel_rfl) ?_) | (refine Run.mk ?_)))
        exact Ret.mk rfl
end Go.Proofs.Ytgdlbpihkodeoaa
