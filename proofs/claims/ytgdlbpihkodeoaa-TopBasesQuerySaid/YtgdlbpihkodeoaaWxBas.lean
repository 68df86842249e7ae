/- mergebase: check, best, Bases. -/
import Derived.Test.YtgdlbpihkodeoaaBasPure
import Derived.Test.YtgdlbpihkodeoaaWxBis
namespace Go.Proofs.Ytgdlbpihkodeoaa
open Go.RowKit
set_option maxRecDepth 20000
set_option linter.unusedSimpArgs false

def sp_mcheck : SpecF := pureSp false [.slice tCm, .int .i64, .int .i64] (fun _ => True) (fun (l', a', b', _) => .v true [.d (.int .i64) (basF l' a' b').1, .d (.int .i64) (basF l' a' b').2])
theorem mcheck_sp : SpFact 41 sp_mcheck := by
  refine ⟨⟨Try.f41, rfl, rfl, rfl, pureSp_ok (env_fine (sp := [(25, sp_HVal), (60, sp_Is)]) (eq := [(24, true)]) ⟨HVal_sp, Is_sp, True.intro⟩ ⟨eq_fault, True.intro⟩) rfl (fun _ _ => rfl) ?_⟩, pureSp_loc _ _ _ _⟩
  rintro ⟨l, a, b, u⟩ - -
  change List Cm at l
  change Int at a b
  dsimp only
  by_cases h1 : hC l = 0
  · have hf : (decide (hC l = 0) && decide (hI l = 0)) = true := by rw [h1, hI_good l h1]; rfl
    have hl := hC_len h1
    replace hf := Lib.hid hf
    have e : basF l a b = if ¬ (0 ≤ a ∧ a < l.length) then (6, 0) else if ¬ (0 ≤ b ∧ b < l.length) then (6, 1) else (0, 0) := if_neg (Classical.not_not.2 h1)
    rw [e]
    replace h1 := Lib.hid h1
    clear e
    (refine fnM_of rfl rfl rfl rfl ?_; dsimp only [params, argAV, Ty.leaves, Ty.isSt])
    (repeat' (first | (with_reducible refine Cend.go ?_) | (with_reducible refine Step.mk True.intro ?_) | (with_reducible refine Step.mk ?_ ?_; focus (((try simp only [true_and, and_true, and_self, kmin, kmax, decide_eq_true_eq, decide_eq_false_iff_not, castD_self, castL_self, List.length_cons, List.length_nil, List.length_append, Int.natCast_add] at *) <;> omega))) | (with_reducible refine Step.mk ?_ ?_) | (with_reducible refine Way.t1 ?_) | (with_reducible refine Way.f1 ?_) | ((with_reducible refine Way.dec (fun zz => ?_) (fun zz => ?_)) <;> (try simp only [castD_self, castL_self] at zz) <;> try (exfalso; first | omega | contradiction)) | (with_reducible refine Way.nt ?_) | ((with_reducible refine Way.mk (fun _ => ?_) (fun _ => ?_)) <;> try (exfalso; rename_i hw; first | exact Bool.noConfusion ((Go.RowKit.Hid.out hf).symm.trans hw) | exact Bool.noConfusion (hw.symm.trans (Go.RowKit.Hid.out hf)))) | (with_reducible refine Drawn.mk (by kernel_rfl) ?_) | (refine Run.mk ?_)))
    refine loop_by (X := Nat) (fun x => [.put 0 (.v false [.d (.slice tCm) l]), .put 6 (.v false [.p 6 0]), .put 18 (.v true [.d (.int .i64) a, .d (.int .i64) b]), .put 19 (.v false [.d (.int .i64) (x : Int)])])
      (fun x => [.put 6 (.box 24 [.d (.int .i64) 0, .d (.int .i64) 0])]) (fun x => x = 0 ∨ (x = 1 ∧ (0 ≤ a ∧ a < l.length)) ∨ (x = 2 ∧ (0 ≤ a ∧ a < l.length) ∧ 0 ≤ b ∧ b < l.length)) (fun x => 2 - x) 0 (.inl rfl) ?_ ?_
    · (refine Wk.keep ?_ ?_ <;> repeat' (first | exact True.intro | refine And.intro rfl ?_ | refine And.intro (congrArg (fun z : Int => AV.v false [Lf.d (.int .i64) z]) (by first | omega | (simp only [Int.natCast_add, List.length_cons, List.length_append, List.length_nil]; omega))) ?_ | refine And.intro ?_ ?_))
    rintro k (rfl | ⟨rfl, ha⟩ | ⟨rfl, ha, hb⟩)
    · (repeat' (first | (with_reducible refine Cend.go ?_) | (with_reducible refine Step.mk True.intro ?_) | (with_reducible refine Step.mk ?_ ?_; focus (((try simp only [true_and, and_true, and_self, kmin, kmax, decide_eq_true_eq, decide_eq_false_iff_not, castD_self, castL_self, List.length_cons, List.length_nil, List.length_append, Int.natCast_add] at *) <;> omega))) | (with_reducible refine Step.mk ?_ ?_) | (with_reducible refine Way.t1 ?_) | (with_reducible refine Way.f1 ?_) | ((with_reducible refine Way.dec (fun zz => ?_) (fun zz => ?_)) <;> (try simp only [castD_self, castL_self] at zz) <;> try (exfalso; first | omega | contradiction)) | (with_reducible refine Way.nt ?_) | ((with_reducible refine Way.mk (fun _ => ?_) (fun _ => ?_)) <;> try (exfalso; rename_i hw; first | exact Bool.noConfusion ((Go.RowKit.Hid.out hf).symm.trans hw) | exact Bool.noConfusion (hw.symm.trans (Go.RowKit.Hid.out hf)))) | (with_reducible refine Drawn.mk (by kernel_rfl) ?_) | (refine Run.mk ?_)))
      · have hx : 0 ≤ a ∧ a < (l.length : Int) := zz
        (refine Back.by (1) ?_ ?_ ?_; focus (refine Wk.keep ?_ ?_ <;> repeat' (first | exact True.intro | refine And.intro rfl ?_ | refine And.intro (congrArg (fun z : Int => AV.v false [Lf.d (.int .i64) z]) (by first | omega | (simp only [Int.natCast_add, List.length_cons, List.length_append, List.length_nil]; omega))) ?_ | refine And.intro ?_ ?_)))
        · exact .inr (.inl ⟨rfl, hx⟩)
        · decide
      · have hx : ¬ (0 ≤ a ∧ a < (l.length : Int)) := zz
        refine Ret.mk ?_
        rw [if_pos hx]
        exact rfl
    · (repeat' (first | (with_reducible refine Cend.go ?_) | (with_reducible refine Step.mk True.intro ?_) | (with_reducible refine Step.mk ?_ ?_; focus (((try simp only [true_and, and_true, and_self, kmin, kmax, decide_eq_true_eq, decide_eq_false_iff_not, castD_self, castL_self, List.length_cons, List.length_nil, List.length_append, Int.natCast_add] at *) <;> omega))) | (with_reducible refine Step.mk ?_ ?_) | (with_reducible refine Way.t1 ?_) | (with_reducible refine Way.f1 ?_) | ((with_reducible refine Way.dec (fun zz => ?_) (fun zz => ?_)) <;> (try simp only [castD_self, castL_self] at zz) <;> try (exfalso; first | omega | contradiction)) | (with_reducible refine Way.nt ?_) | ((with_reducible refine Way.mk (fun _ => ?_) (fun _ => ?_)) <;> try (exfalso; rename_i hw; first | exact Bool.noConfusion ((Go.RowKit.Hid.out hf).symm.trans hw) | exact Bool.noConfusion (hw.symm.trans (Go.RowKit.Hid.out hf)))) | (with_reducible refine Drawn.mk (by kernel_rfl) ?_) | (refine Run.mk ?_)))
      · have hx : 0 ≤ b ∧ b < (l.length : Int) := zz
        (refine Back.by (2) ?_ ?_ ?_; focus (refine Wk.keep ?_ ?_ <;> repeat' (first | exact True.intro | refine And.intro rfl ?_ | refine And.intro (congrArg (fun z : Int => AV.v false [Lf.d (.int .i64) z]) (by first | omega | (simp only [Int.natCast_add, List.length_cons, List.length_append, List.length_nil]; omega))) ?_ | refine And.intro ?_ ?_)))
        · exact .inr (.inr ⟨rfl, ha, hx⟩)
        · decide
      · have hx : ¬ (0 ≤ b ∧ b < (l.length : Int)) := zz
        refine Ret.mk ?_
        rw [if_neg (Classical.not_not.2 ha), if_pos hx]
        exact rfl
    · (repeat' (first | (with_reducible refine Cend.go ?_) | (with_reducible refine Step.mk True.intro ?_) | (with_reducible refine Step.mk ?_ ?_; focus (((try simp only [true_and, and_true, and_self, kmin, kmax, decide_eq_true_eq, decide_eq_false_iff_not, castD_self, castL_self, List.length_cons, List.length_nil, List.length_append, Int.natCast_add] at *) <;> omega))) | (with_reducible refine Step.mk ?_ ?_) | (with_reducible refine Way.t1 ?_) | (with_reducible refine Way.f1 ?_) | ((with_reducible refine Way.dec (fun zz => ?_) (fun zz => ?_)) <;> (try simp only [castD_self, castL_self] at zz) <;> try (exfalso; first | omega | contradiction)) | (with_reducible refine Way.nt ?_) | ((with_reducible refine Way.mk (fun _ => ?_) (fun _ => ?_)) <;> try (exfalso; rename_i hw; first | exact Bool.noConfusion ((Go.RowKit.Hid.out hf).symm.trans hw) | exact Bool.noConfusion (hw.symm.trans (Go.RowKit.Hid.out hf)))) | (with_reducible refine Drawn.mk (by kernel_rfl) ?_) | (refine Run.mk ?_)))
      refine Ret.mk ?_
      rw [if_neg (Classical.not_not.2 ha), if_neg (Classical.not_not.2 hb)]
      exact rfl
  · have hf : (decide (hC l = 0) && decide (hI l = 0)) = false := by rw [decide_eq_false h1]; rfl
    replace hf := Lib.hid hf
    have e : basF l a b = (hC l, hI l) := if_pos h1
    rw [e]
    replace h1 := Lib.hid h1
    (refine fnM_of rfl rfl rfl rfl ?_; dsimp only [params, argAV, Ty.leaves, Ty.isSt])
    (repeat' (first | (with_reducible refine Cend.go ?_) | (with_reducible refine Step.mk True.intro ?_) | (with_reducible refine Step.mk ?_ ?_; focus (((try simp only [true_and, and_true, and_self, kmin, kmax, decide_eq_true_eq, decide_eq_false_iff_not, castD_self, castL_self, List.length_cons, List.length_nil, List.length_append, Int.natCast_add] at *) <;> omega))) | (with_reducible refine Step.mk ?_ ?_) | (with_reducible refine Way.t1 ?_) | (with_reducible refine Way.f1 ?_) | ((with_reducible refine Way.dec (fun zz => ?_) (fun zz => ?_)) <;> (try simp only [castD_self, castL_self] at zz) <;> try (exfalso; first | omega | contradiction)) | (with_reducible refine Way.nt ?_) | ((with_reducible refine Way.mk (fun _ => ?_) (fun _ => ?_)) <;> try (exfalso; rename_i hw; first | exact Bool.noConfusion ((Go.RowKit.Hid.out hf).symm.trans hw) | exact Bool.noConfusion (hw.symm.trans (Go.RowKit.Hid.out hf)))) | (with_reducible refine Drawn.mk (by kernel_rfl) ?_) | (refine Run.mk ?_)))
    exact Ret.mk rfl

noncomputable def sp_best : SpecF := ownSp true [.slice tCm, .slice (.int .i64)] 3 (.int .i64) (fun (l', ns', _) => OfPre l' ns' ∧ List.length ns' ≤ 60) (fun (l', ns', _) => bestP l' ns')
set_option maxHeartbeats 1000000 in
theorem best_sp : SpFact 42 sp_best := by
  refine ⟨⟨Try.f42, rfl, rfl, rfl, ownSp_ok (env_fine (sp := [(46, sp_Of)]) (eq := []) ⟨Of_sp, True.intro⟩ True.intro) rfl (fun _ => rfl) ?_⟩, ownSp_loc _ _ _ _ _ _⟩
  rintro ⟨l, ns, u⟩ - ⟨hp, h60⟩
  change List Cm at l
  change List Int at ns
  have hp : OfPre l ns := hp
  have h60 : ns.length ≤ 60 := h60
  have hl := hC_len hp.1
  have hpo := parOk_of hp.1
  have hon : ∀ n : Int, 0 ≤ n → n < l.length → OfPre l [n] := fun n h0 h1 => ⟨hp.1, by simp, fun m hm => by rw [List.mem_singleton] at hm; rw [hm]; exact ⟨h0, h1⟩⟩
  have hin := hp.2.2
  clear hp
  replace hpo := Lib.hid hpo
  replace hon := Lib.hid hon
  replace hin := Lib.hid hin
  dsimp only
  (refine fnM_of rfl rfl rfl rfl ?_; dsimp only [params, argAV, Ty.leaves, Ty.isSt])
  (repeat' (first | (with_reducible refine Cend.go ?_) | (with_reducible refine Step.mk True.intro ?_) | (with_reducible refine Step.mk ?_ ?_; focus (((try simp only [true_and, and_true, and_self, kmin, kmax, decide_eq_true_eq, decide_eq_false_iff_not, castD_self, castL_self, List.length_cons, List.length_nil, List.length_append, Int.natCast_add] at *) <;> omega))) | (with_reducible refine Step.mk ?_ ?_) | (with_reducible refine Way.t1 ?_) | (with_reducible refine Way.f1 ?_) | ((with_reducible refine Way.dec (fun _ => ?_) (fun _ => ?_)) <;> try (exfalso; omega)) | (with_reducible refine Way.nt ?_) | (with_reducible refine Way.mk (fun _ => ?_) (fun _ => ?_)) | (with_reducible refine Drawn.mk (by kernel_rfl) ?_) | (refine Run.mk ?_)))
  refine loop_by (X := Nat) (fun x => [.put 0 (.v false [.d (.slice tCm) l]), .put 1 (.v false [.d (.slice (.int .i64)) ns]), .put 5 (.v false [.o 17]), .put 18 (.v false [.d (.slice (.int .i64)) ns]), .put 19 (.v false [.d (.int .i64) (ns.length : Int)]), .put 20 (.v false [.d (.int .i64) (x : Int)])])
    (fun x => [.put 17 (.row 3 (.int .i64) (tabA (cntA l (ns.take x)) l.length))]) (fun x => x ≤ ns.length) (fun x => ns.length - x) 0 (Nat.zero_le _) ?_ ?_
  · (refine Wk.keep ?_ ?_ <;> repeat' (first | exact True.intro | refine And.intro rfl ?_ | refine And.intro (congrArg (fun z : Int => AV.v false [Lf.d (.int .i64) z]) (by first | omega | (simp only [Int.natCast_add, List.length_cons, List.length_append, List.length_nil]; omega))) ?_ | refine And.intro ?_ ?_))
    all_goals skip
    exact congrArg (fun z => some (Ob.row _ (.int .i64) z)) (rep_tabA (0 : Int) l.length)
  intro k hk
  by_cases hlt : k < ns.length
  · have hg : ns.getD ((k : Int)).toNat (Ty.int .i64).dflt = ns[k] := getD_of _ hlt
    obtain ⟨m0, m1⟩ := hin.out _ (List.getElem_mem hlt)
    have hof := hon.out _ m0 m1
    have hct := fun i => cntA_take (l := l) hlt i
    have hcl := fun i => cntA_le l (ns.take k) i
    have hal : (ancB l [ns[k]]).length = l.length := ancB_len _ _
    rw [← hg] at m0 m1 hof hct hal
    clear hg
    replace hof := Lib.hid hof
    replace hct := Lib.hid hct
    replace hcl := Lib.hid hcl
    (repeat' (first | (with_reducible refine Cend.go ?_) | (with_reducible refine Step.mk True.intro ?_) | (with_reducible refine Step.mk ?_ ?_; focus (((try simp only [true_and, and_true, and_self, kmin, kmax, decide_eq_true_eq, decide_eq_false_iff_not, castD_self, castL_self, List.length_cons, List.length_nil, List.length_append, Int.natCast_add] at *) <;> omega))) | (with_reducible refine Step.mk ?_ ?_) | (with_reducible refine Way.t1 ?_) | (with_reducible refine Way.f1 ?_) | ((with_reducible refine Way.dec (fun _ => ?_) (fun _ => ?_)) <;> try (exfalso; omega)) | (with_reducible refine Way.nt ?_) | (with_reducible refine Way.mk (fun _ => ?_) (fun _ => ?_)) | (with_reducible refine Drawn.mk (by kernel_rfl) ?_) | (refine Run.mk ?_)))
    · exact hof.out
    refine loop_by (X := Nat) (fun x => [.put 0 (.v false [.d (.slice tCm) l]), .put 1 (.v false [.d (.slice (.int .i64)) ns]), .put 5 (.v false [.o 17]), .put 18 (.v false [.d (.slice (.int .i64)) ns]), .put 19 (.v false [.d (.int .i64) (ns.length : Int)]), .put 20 (.v false [.d (.int .i64) (k : Int)]),
        .put 27 (.v false [.o 27]), .put 28 (.v false [.d (.int .i64) (l.length : Int)]), .put 29 (.v false [.d (.int .i64) (x : Int)])])
      (fun x => [.put 17 (.row 3 (.int .i64) (mixA (cntA l (ns.take k)) (cntA l (ns.take (k + 1))) l.length x)), .put 27 (.row 4 .bool (ancB l [ns.getD ((k : Int)).toNat (Ty.int .i64).dflt]))]) (fun x => x ≤ l.length) (fun x => l.length - x) 0 (Nat.zero_le _) ?_ ?_
    · (refine Wk.keep ?_ ?_ <;> repeat' (first | exact True.intro | refine And.intro rfl ?_ | refine And.intro (congrArg (fun z : Int => AV.v false [Lf.d (.int .i64) z]) (by first | omega | (simp only [Int.natCast_add, List.length_cons, List.length_append, List.length_nil]; omega))) ?_ | refine And.intro ?_ ?_))
      · show AV.v false [Lf.d (.int .i64) ((ancB l [ns.getD ((k : Int)).toNat (Ty.int .i64).dflt]).length : Int)] = AV.v false [Lf.d (.int .i64) (l.length : Int)]
        rw [hal]
    intro q hq
    by_cases hlq : q < l.length
    · have hml := mixA_len (cntA l (ns.take k)) (cntA l (ns.take (k + 1))) l.length q
      have hmg := mixA_at (cntA l (ns.take k)) (cntA l (ns.take (k + 1))) (Ty.int .i64).dflt hlq
      have hms := mixA_set (cntA l (ns.take k)) (cntA l (ns.take (k + 1))) (n := l.length) (k := q)
      have hmk := mixA_skip (cntA l (ns.take k)) (cntA l (ns.take (k + 1))) (n := l.length) (k := q)
      have hq0 := hct.out q
      obtain ⟨c0, c1⟩ := hcl.out q
      rw [← hmg] at hq0 hmk c0 c1
      generalize ancB l [ns.getD ((k : Int)).toNat (Ty.int .i64).dflt] = A at *
      obtain ⟨r, hr⟩ : ∃ r, mixA (cntA l (ns.take k)) (cntA l (ns.take (k + 1))) l.length q = r := ⟨_, rfl⟩
      rw [hr] at hml hmg hms hmk hq0 c0 c1 ⊢
      clear hr hmg
      have c1 : r.getD q (Ty.int .i64).dflt ≤ 60 := by
        have : (ns.take k).length ≤ 60 := by rw [List.length_take]; omega
        omega
      replace hms := Lib.hid hms
      replace hmk := Lib.hid hmk
      replace hq0 := Lib.hid hq0
      have c0 : 0 ≤ r.getD ((q : Int)).toNat (Ty.int .i64).dflt := c0
      have c1 : r.getD ((q : Int)).toNat (Ty.int .i64).dflt ≤ 60 := c1
      (repeat' (first | (with_reducible refine Cend.go ?_) | (with_reducible refine Step.mk True.intro ?_) | (with_reducible refine Step.mk ?_ ?_; focus (((try simp only [true_and, and_true, and_self, kmin, kmax, decide_eq_true_eq, decide_eq_false_iff_not, castD_self, castL_self, List.length_cons, List.length_nil, List.length_append, Int.natCast_add] at *) <;> omega))) | (with_reducible refine Step.mk ?_ ?_) | (with_reducible refine Way.t1 ?_) | (with_reducible refine Way.f1 ?_) | ((with_reducible refine Way.dec (fun _ => ?_) (fun _ => ?_)) <;> try (exfalso; omega)) | (with_reducible refine Way.nt ?_) | (with_reducible refine Way.mk (fun _ => ?_) (fun _ => ?_)) | (with_reducible refine Drawn.mk (by kernel_rfl) ?_) | (refine Run.mk ?_)))
      · rename_i hx
        have hx : A.getD q false = true := hx
        have e := hq0.out
        rw [hx, if_pos rfl] at e
        (refine Back.by (q + 1) ?_ ?_ ?_; focus (refine Wk.keep ?_ ?_ <;> repeat' (first | exact True.intro | refine And.intro rfl ?_ | refine And.intro (congrArg (fun z : Int => AV.v false [Lf.d (.int .i64) z]) (by first | omega | (simp only [Int.natCast_add, List.length_cons, List.length_append, List.length_nil]; omega))) ?_ | refine And.intro ?_ ?_)))
        · rw [← hms.out, e]; exact rfl
        · exact hlq
        · show l.length - (q + 1) < l.length - q; omega
      · rename_i hx
        have hx : A.getD q false = false := hx
        have e := hq0.out
        rw [hx, if_neg (by decide)] at e
        (refine Back.by (q + 1) ?_ ?_ ?_; focus (refine Wk.keep ?_ ?_ <;> repeat' (first | exact True.intro | refine And.intro rfl ?_ | refine And.intro (congrArg (fun z : Int => AV.v false [Lf.d (.int .i64) z]) (by first | omega | (simp only [Int.natCast_add, List.length_cons, List.length_append, List.length_nil]; omega))) ?_ | refine And.intro ?_ ?_)))
        · rw [← hmk.out e]; exact rfl
        · exact hlq
        · show l.length - (q + 1) < l.length - q; omega
    · have e : q = l.length := by omega
      subst e
      rw [mixA_n]
      (repeat' (first | (with_reducible refine Cend.go ?_) | (with_reducible refine Step.mk True.intro ?_) | (with_reducible refine Step.mk ?_ ?_; focus (((try simp only [true_and, and_true, and_self, kmin, kmax, decide_eq_true_eq, decide_eq_false_iff_not, castD_self, castL_self, List.length_cons, List.length_nil, List.length_append, Int.natCast_add] at *) <;> omega))) | (with_reducible refine Step.mk ?_ ?_) | (with_reducible refine Way.t1 ?_) | (with_reducible refine Way.f1 ?_) | ((with_reducible refine Way.dec (fun _ => ?_) (fun _ => ?_)) <;> try (exfalso; omega)) | (with_reducible refine Way.nt ?_) | (with_reducible refine Way.mk (fun _ => ?_) (fun _ => ?_)) | (with_reducible refine Drawn.mk (by kernel_rfl) ?_) | (refine Run.mk ?_)))
      (refine Back.by (k + 1) ?_ ?_ ?_; focus (refine Wk.keep ?_ ?_ <;> repeat' (first | exact True.intro | refine And.intro rfl ?_ | refine And.intro (congrArg (fun z : Int => AV.v false [Lf.d (.int .i64) z]) (by first | omega | (simp only [Int.natCast_add, List.length_cons, List.length_append, List.length_nil]; omega))) ?_ | refine And.intro ?_ ?_)))
      · exact hlt
      · show ns.length - (k + 1) < ns.length - k; omega
  · have e : ns.take k = ns := List.take_of_length_le (by omega)
    rw [e]
    (repeat' (first | (with_reducible refine Cend.go ?_) | (with_reducible refine Step.mk True.intro ?_) | (with_reducible refine Step.mk ?_ ?_; focus (((try simp only [true_and, and_true, and_self, kmin, kmax, decide_eq_true_eq, decide_eq_false_iff_not, castD_self, castL_self, List.length_cons, List.length_nil, List.length_append, Int.natCast_add] at *) <;> omega))) | (with_reducible refine Step.mk ?_ ?_) | (with_reducible refine Way.t1 ?_) | (with_reducible refine Way.f1 ?_) | ((with_reducible refine Way.dec (fun _ => ?_) (fun _ => ?_)) <;> try (exfalso; omega)) | (with_reducible refine Way.nt ?_) | (with_reducible refine Way.mk (fun _ => ?_) (fun _ => ?_)) | (with_reducible refine Drawn.mk (by kernel_rfl) ?_) | (refine Run.mk ?_)))
    refine loop_by (X := Nat) (fun x => [.put 0 (.v false [.d (.slice tCm) l]), .put 1 (.v false [.d (.slice (.int .i64)) ns]), .put 5 (.v false [.o 17]), .put 10 (.v false [.o 91]), .put 11 (.v false [.o 45]), .put 12 (.v false [.d (.int .i64) ((x : Int) - 1)])])
      (fun x => [.put 17 (.row 3 (.int .i64) (tabA (cntA l ns) l.length)), .put 45 (.row 4 .bool (covR l (comS l ns) x)), .put 91 (.row 3 (.int .i64) (upK (hdF l ns) l.length x))]) (fun x => x ≤ l.length) (fun x => x) l.length (Nat.le_refl _) ?_ ?_
    · refine Wk.trans (Wk.nilrow 10 91 3 (.int .i64) rfl) ?_
      (refine Wk.keep ?_ ?_ <;> repeat' (first | exact True.intro | refine And.intro rfl ?_ | refine And.intro (congrArg (fun z : Int => AV.v false [Lf.d (.int .i64) z]) (by first | omega | (simp only [Int.natCast_add, List.length_cons, List.length_append, List.length_nil]; omega))) ?_ | refine And.intro ?_ ?_))
      · rw [covR_n]; exact rfl
      · rw [upK_n]; exact rfl
    intro m hm
    by_cases h0 : 0 < m
    · obtain ⟨q, rfl⟩ : ∃ q, m = q + 1 := ⟨m - 1, by omega⟩
      have hi := hdF_iff hpo.out (ns := ns) (show q < l.length by omega)
      have hu := upK_step (hdF l ns) (show q < l.length by omega)
      have hul := upK_len (hdF l ns) l.length (q + 1)
      have hcn := covR_no (l := l) (S := comS l ns) (i := q)
      have hcy := covR_yes (l := l) (S := comS l ns) (i := q) (by omega)
      have hh : hdF l ns q = true ↔ HdP l (comS l ns) q := hdS_at hpo.out (comS_len _ _) (by omega)
      rw [← hh] at hcn hcy
      have hcl2 := covR_len l (comS l ns) (q + 1)
      have hca : (tabA (cntA l ns) l.length).getD q (Ty.int .i64).dflt = cntA l ns q := tabA_at _ _ (by omega)
      have hcl3 := tabA_len (cntA l ns) l.length
      have hof := hon.out (q : Int) (by omega) (by omega)
      have hal : (ancB l [(q : Int)]).length = l.length := ancB_len _ _
      rw [← hca] at hi
      obtain ⟨C, hC⟩ : ∃ C, covR l (comS l ns) (q + 1) = C := ⟨_, rfl⟩
      obtain ⟨R, hR⟩ : ∃ R, tabA (cntA l ns) l.length = R := ⟨_, rfl⟩
      obtain ⟨U, hU⟩ : ∃ U, upK (hdF l ns) l.length (q + 1) = U := ⟨_, rfl⟩
      have hqe : (((q + 1 : Nat) : Int) - 1) = (q : Int) := by omega
      rw [hC] at hi hcn hcy hcl2 ⊢
      rw [hR] at hi hcl3 ⊢
      rw [hU] at hu hul ⊢
      rw [hqe]
      clear hC hU hca hh hqe
      replace hi := Lib.hid hi
      replace hu := Lib.hid hu
      replace hcn := Lib.hid hcn
      replace hcy := Lib.hid hcy
      replace hof := Lib.hid hof
      replace hR := Lib.hid hR
      (repeat' (first | (with_reducible refine Cend.go ?_) | (with_reducible refine Step.mk True.intro ?_) | (with_reducible refine Step.mk ?_ ?_; focus (((try simp only [true_and, and_true, and_self, kmin, kmax, decide_eq_true_eq, decide_eq_false_iff_not, castD_self, castL_self, List.length_cons, List.length_nil, List.length_append, Int.natCast_add] at *) <;> omega))) | (with_reducible refine Step.mk ?_ ?_) | (with_reducible refine Way.t1 ?_) | (with_reducible refine Way.f1 ?_) | ((with_reducible refine Way.dec (fun _ => ?_) (fun _ => ?_)) <;> try (exfalso; omega)) | (with_reducible refine Way.nt ?_) | (with_reducible refine Way.mk (fun _ => ?_) (fun _ => ?_)) | (with_reducible refine Drawn.mk (by kernel_rfl) ?_) | (refine Run.mk ?_)))
      · rename_i hx
        have hx : R.getD q (Ty.int .i64).dflt < (ns.length : Int) := hx
        have hn : ¬ hdF l ns q = true := fun h => (hi.out.1 h).1 hx
        (refine Back.by (q) ?_ ?_ ?_; focus (refine Wk.keep ?_ ?_ <;> repeat' (first | exact True.intro | refine And.intro rfl ?_ | refine And.intro (congrArg (fun z : Int => AV.v false [Lf.d (.int .i64) z]) (by first | omega | (simp only [Int.natCast_add, List.length_cons, List.length_append, List.length_nil]; omega))) ?_ | refine And.intro ?_ ?_)))
        · rw [hcn.out hn]; exact rfl
        · rw [hu.out, if_neg hn]; exact rfl
        · show q ≤ l.length; omega
        · show q < q + 1; omega
      · rename_i hx hy
        have hy : C.getD q false = true := hy
        have hn : ¬ hdF l ns q = true := fun h => (hi.out.1 h).2 hy
        (refine Back.by (q) ?_ ?_ ?_; focus (refine Wk.keep ?_ ?_ <;> repeat' (first | exact True.intro | refine And.intro rfl ?_ | refine And.intro (congrArg (fun z : Int => AV.v false [Lf.d (.int .i64) z]) (by first | omega | (simp only [Int.natCast_add, List.length_cons, List.length_append, List.length_nil]; omega))) ?_ | refine And.intro ?_ ?_)))
        · rw [hcn.out hn]; exact rfl
        · rw [hu.out, if_neg hn]; exact rfl
        · show q ≤ l.length; omega
        · show q < q + 1; omega
      · exact hof.out
      · rename_i hx hy
        have hx : ¬ R.getD q (Ty.int .i64).dflt < (ns.length : Int) := hx
        have hy : C.getD q false = false := hy
        have hn : hdF l ns q = true := hi.out.2 ⟨hx, by rw [hy]; decide⟩
        have hcy2 := hcy.out hn
        have hu2 := hu.out
        rw [if_pos hn] at hu2
        have hul2 : ((q : Int) :: U).length ≤ 60 := by rw [List.length_cons]; omega
        have hql : q < l.length := hm
        clear hx hy hn hi hu hcn hcy hm h0 hul
        replace hcy2 := Lib.hid hcy2
        replace hu2 := Lib.hid hu2
        have hCt : tabB (fun i => C.getD i false) l.length = C := by rw [← hcl2]; exact tabB_of C
        replace hCt := Lib.hid hCt
        refine loop_by (X := Nat) (fun x => [.put 0 (.v false [.d (.slice tCm) l]), .put 1 (.v false [.d (.slice (.int .i64)) ns]), .put 5 (.v false [.o 17]), .put 10 (.v false [.o 69]), .put 11 (.v false [.o 45]), .put 12 (.v false [.d (.int .i64) (q : Int)]),
            .put 73 (.v false [.o 73]), .put 74 (.v false [.d (.int .i64) (l.length : Int)]), .put 75 (.v false [.d (.int .i64) (x : Int)])])
          (fun x => [.put 17 (.row 3 (.int .i64) R), .put 45 (.row 4 .bool (mixB (fun i => C.getD i false) (uniF C (ancB l [(q : Int)])) l.length x)), .put 69 (.row 3 (.int .i64) ((q : Int) :: U)), .put 73 (.row 4 .bool (ancB l [(q : Int)]))]) (fun x => x ≤ l.length) (fun x => l.length - x) 0 (Nat.zero_le _) ?_ ?_
        · (refine Wk.keep ?_ ?_ <;> repeat' (first | exact True.intro | refine And.intro rfl ?_ | refine And.intro (congrArg (fun z : Int => AV.v false [Lf.d (.int .i64) z]) (by first | omega | (simp only [Int.natCast_add, List.length_cons, List.length_append, List.length_nil]; omega))) ?_ | refine And.intro ?_ ?_))
          · show AV.v false [Lf.d (.int .i64) ((ancB l [(q : Int)]).length : Int)] = AV.v false [Lf.d (.int .i64) (l.length : Int)]
            rw [hal]
          · rw [mixB_0, hCt.out]; exact rfl
        intro c hc
        by_cases hlc : c < l.length
        · have hml := mixB_len (fun i => C.getD i false) (uniF C (ancB l [(q : Int)])) l.length c
          have hms := mixB_set (fun i => C.getD i false) (uniF C (ancB l [(q : Int)])) (n := l.length) (k := c)
          have hmg : (mixB (fun i => C.getD i false) (uniF C (ancB l [(q : Int)])) l.length c).getD c false = C.getD c false := by
            unfold mixB
            rw [tabB_at _ hlc, if_neg (Nat.lt_irrefl c)]
          generalize ancB l [(q : Int)] = A at *
          obtain ⟨r, hr⟩ : ∃ r, mixB (fun i => C.getD i false) (uniF C A) l.length c = r := ⟨_, rfl⟩
          rw [hr] at hml hms hmg ⊢
          clear hr
          replace hms := Lib.hid hms
          replace hmg := Lib.hid hmg
          (repeat' (first | (with_reducible refine Cend.go ?_) | (with_reducible refine Step.mk True.intro ?_) | (with_reducible refine Step.mk ?_ ?_; focus (((try simp only [true_and, and_true, and_self, kmin, kmax, decide_eq_true_eq, decide_eq_false_iff_not, castD_self, castL_self, List.length_cons, List.length_nil, List.length_append, Int.natCast_add] at *) <;> omega))) | (with_reducible refine Step.mk ?_ ?_) | (with_reducible refine Way.t1 ?_) | (with_reducible refine Way.f1 ?_) | ((with_reducible refine Way.dec (fun _ => ?_) (fun _ => ?_)) <;> try (exfalso; omega)) | (with_reducible refine Way.nt ?_) | (with_reducible refine Way.mk (fun _ => ?_) (fun _ => ?_)) | (with_reducible refine Drawn.mk (by kernel_rfl) ?_) | (refine Run.mk ?_)))
          · rename_i hx
            have hx : r.getD c false = true := hx
            have e : uniF C A c = true := by unfold uniF; rw [← hmg.out, hx]; rfl
            (refine Back.by (c + 1) ?_ ?_ ?_; focus (refine Wk.keep ?_ ?_ <;> repeat' (first | exact True.intro | refine And.intro rfl ?_ | refine And.intro (congrArg (fun z : Int => AV.v false [Lf.d (.int .i64) z]) (by first | omega | (simp only [Int.natCast_add, List.length_cons, List.length_append, List.length_nil]; omega))) ?_ | refine And.intro ?_ ?_)))
            · rw [← hms.out, e]; exact rfl
            · exact hlc
            · show l.length - (c + 1) < l.length - c; omega
          · rename_i hx
            have hx : r.getD c false = false := hx
            have e : uniF C A c = A.getD c false := by unfold uniF; rw [← hmg.out, hx]; rfl
            (refine Back.by (c + 1) ?_ ?_ ?_; focus (refine Wk.keep ?_ ?_ <;> repeat' (first | exact True.intro | refine And.intro rfl ?_ | refine And.intro (congrArg (fun z : Int => AV.v false [Lf.d (.int .i64) z]) (by first | omega | (simp only [Int.natCast_add, List.length_cons, List.length_append, List.length_nil]; omega))) ?_ | refine And.intro ?_ ?_)))
            · rw [← hms.out, e]; exact rfl
            · exact hlc
            · show l.length - (c + 1) < l.length - c; omega
        · have e : c = l.length := by omega
          subst e
          rw [mixB_n, ← hcy2.out, ← hu2.out]
          (repeat' (first | (with_reducible refine Cend.go ?_) | (with_reducible refine Step.mk True.intro ?_) | (with_reducible refine Step.mk ?_ ?_; focus (((try simp only [true_and, and_true, and_self, kmin, kmax, decide_eq_true_eq, decide_eq_false_iff_not, castD_self, castL_self, List.length_cons, List.length_nil, List.length_append, Int.natCast_add] at *) <;> omega))) | (with_reducible refine Step.mk ?_ ?_) | (with_reducible refine Way.t1 ?_) | (with_reducible refine Way.f1 ?_) | ((with_reducible refine Way.dec (fun _ => ?_) (fun _ => ?_)) <;> try (exfalso; omega)) | (with_reducible refine Way.nt ?_) | (with_reducible refine Way.mk (fun _ => ?_) (fun _ => ?_)) | (with_reducible refine Drawn.mk (by kernel_rfl) ?_) | (refine Run.mk ?_)))
          (refine Back.by (q) ?_ ?_ ?_; focus (refine Wk.ren [(91, 69)] rfl ?_ ?_ <;> repeat' (first | exact True.intro | refine And.intro rfl ?_ | refine And.intro (congrArg (fun z : Int => AV.v false [Lf.d (.int .i64) z]) (by first | omega | (simp only [Int.natCast_add, List.length_cons, List.length_append, List.length_nil]; omega))) ?_ | refine And.intro ?_ ?_)))
          · show q ≤ l.length; omega
          · show q < q + 1; omega
    · obtain rfl : m = 0 := by omega
      rw [upK_0]
      (repeat' (first | (with_reducible refine Cend.go ?_) | (with_reducible refine Step.mk True.intro ?_) | (with_reducible refine Step.mk ?_ ?_; focus (((try simp only [true_and, and_true, and_self, kmin, kmax, decide_eq_true_eq, decide_eq_false_iff_not, castD_self, castL_self, List.length_cons, List.length_nil, List.length_append, Int.natCast_add] at *) <;> omega))) | (with_reducible refine Step.mk ?_ ?_) | (with_reducible refine Way.t1 ?_) | (with_reducible refine Way.f1 ?_) | ((with_reducible refine Way.dec (fun _ => ?_) (fun _ => ?_)) <;> try (exfalso; omega)) | (with_reducible refine Way.nt ?_) | (with_reducible refine Way.mk (fun _ => ?_) (fun _ => ?_)) | (with_reducible refine Drawn.mk (by kernel_rfl) ?_) | (refine Run.mk ?_)))
      exact Ret.mk (.inl ⟨_, rfl, rfl⟩)
end Go.Proofs.Ytgdlbpihkodeoaa
