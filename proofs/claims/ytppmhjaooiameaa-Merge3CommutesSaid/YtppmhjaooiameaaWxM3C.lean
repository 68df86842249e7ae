/- The walks of merge3's check, Clean, Resolve and of the reference's. -/
import Derived.Test.YtppmhjaooiameaaWxReg2
import Derived.Test.YtppmhjaooiameaaM3Res
import Derived.Test.YtppmhjaooiameaaWxRefLin
namespace Go.Proofs.Ytppmhjaooiameaa
open Go.RowKit
set_option maxRecDepth 10000
set_option linter.unusedSimpArgs false

def sp_check : SpecF := pureSp false [.slice tCh] (fun _ => True) (fun (l', _) => .v true [.d (.int .i64) (ckC l'), .d (.int .i64) (ckI l')])
theorem check_sp : SpFact 39 sp_check := by
  refine ⟨⟨Try.f39, rfl, rfl, rfl, pureSp_ok (env_fine (sp := [(24, sp_Second)]) (eq := [(25, true)]) ⟨Second_sp, True.intro⟩ ⟨eq_fault, True.intro⟩) rfl (fun ⟨_, _⟩ _ => rfl) ?_⟩, pureSp_loc _ _ _ _⟩
  rintro ⟨l, u⟩ ⟨⟨hl, -⟩, -⟩ -
  change List Ch at l
  rw [maxLen_eq] at hl
  have hl : l.length ≤ 9223372036854775807 := hl
  by_cases h1 : 240 < l.length
  · have e1 : ckC l = 2 := if_pos h1
    have e2 : ckI l = -1 := if_pos h1
    dsimp only
    rw [e1, e2]
    (refine fnM_of rfl rfl rfl rfl ?_; dsimp only [params, argAV, Ty.leaves, Ty.isSt])
    (repeat' (first | (with_reducible refine Cend.go ?_) | (with_reducible refine Step.mk True.intro ?_) | (with_reducible refine Step.mk ?_ ?_; focus (((try simp only [true_and, and_true, and_self, kmin, kmax, decide_eq_true_eq, decide_eq_false_iff_not, castD_self, castL_self, List.length_cons, List.length_nil, List.length_append, Int.natCast_add] at *) <;> omega))) | (with_reducible refine Step.mk ?_ ?_) | (with_reducible refine Way.t1 ?_) | (with_reducible refine Way.f1 ?_) | ((with_reducible refine Way.dec (fun _ => ?_) (fun _ => ?_)) <;> try (exfalso; omega)) | (with_reducible refine Way.nt ?_) | (with_reducible refine Way.mk (fun _ => ?_) (fun _ => ?_)) | (with_reducible refine Drawn.mk (by kernel_rfl) ?_) | (refine Run.mk ?_)))
    all_goals first | exact Ret.mk rfl | skip
  (refine fnM_of rfl rfl rfl rfl ?_; dsimp only [params, argAV, Ty.leaves, Ty.isSt])
  (repeat' (first | (with_reducible refine Cend.go ?_) | (with_reducible refine Step.mk True.intro ?_) | (with_reducible refine Step.mk ?_ ?_; focus (((try simp only [true_and, and_true, and_self, kmin, kmax, decide_eq_true_eq, decide_eq_false_iff_not, castD_self, castL_self, List.length_cons, List.length_nil, List.length_append, Int.natCast_add] at *) <;> omega))) | (with_reducible refine Step.mk ?_ ?_) | (with_reducible refine Way.t1 ?_) | (with_reducible refine Way.f1 ?_) | ((with_reducible refine Way.dec (fun _ => ?_) (fun _ => ?_)) <;> try (exfalso; omega)) | (with_reducible refine Way.nt ?_) | (with_reducible refine Way.mk (fun _ => ?_) (fun _ => ?_)) | (with_reducible refine Drawn.mk (by kernel_rfl) ?_) | (refine Run.mk ?_)))
  refine loop_by (X := Nat) (fun x => [.put 2 (.v false [.p 2 0]), .put 13 (.v false [.d (.slice tCh) l]), .put 14 (.v false [.d (.int .i64) (l.length : Int)]), .put 15 (.v false [.d (.int .i64) (x : Int)])])
    (fun _ => [.put 2 (.box 25 [.d (.int .i64) 0, .d (.int .i64) 0])]) (fun x => x ≤ l.length ∧ ckC l = csC (l.drop x) ∧ ckI l = csI x (l.drop x)) (fun x => l.length - x) 0 ⟨Nat.zero_le _, if_neg h1, if_neg h1⟩ ?_ ?_
  · (refine Wk.keep ?_ ?_ <;> repeat' (first | exact True.intro | refine And.intro rfl ?_ | refine And.intro (congrArg (fun z : Int => AV.v false [Lf.d (.int .i64) z]) (by first | omega | (simp only [Int.natCast_add, List.length_cons, List.length_append, List.length_nil]; omega))) ?_ | refine And.intro ?_ ?_))
  rintro k ⟨hk, hcC, hcI⟩
  dsimp only at hk hcC hcI ⊢
  by_cases hlt : k < l.length
  · have hg : l.getD ((k : Int)).toNat tCh.dflt = l[k] := getD_at tCh.dflt hlt
    rw [csC_step hlt, ← hg] at hcC
    rw [csI_step hlt, ← hg] at hcI
    replace hg := Lib.hid hg
    obtain ⟨C, hC⟩ : ∃ C, l.getD ((k : Int)).toNat tCh.dflt = C := ⟨_, rfl⟩
    rw [hC] at hcC hcI
    have fin : ∀ c, chC C = c → c ≠ 0 → ckC l = c ∧ ckI l = k := fun c h1 h2 => by
      rw [hcC, hcI, h1, if_neg h2, if_neg h2]; exact ⟨rfl, rfl⟩
    have nxt : chC C = 0 → ckC l = csC (l.drop (k + 1)) ∧ ckI l = csI ((k + 1 : Nat) : Int) (l.drop (k + 1)) := fun h1 => by
      rw [hcC, hcI, if_pos h1, if_pos h1]; exact ⟨rfl, rfl⟩
    have lens : vC C.2.1 = 0 → vC C.2.2.1 = 0 → vC C.2.2.2.1 = 0 → vC C.2.2.2.2 = 0 → C.2.1.length ≤ 120 ∧ C.2.2.1.length ≤ 120 ∧ C.2.2.2.1.length ≤ 120 ∧ C.2.2.2.2.length ≤ 120 := fun a b c d => ⟨vC_len _ a, vC_len _ b, vC_len _ c, vC_len _ d⟩
    clear hcC hcI
    replace fin := Lib.hid fin
    replace nxt := Lib.hid nxt
    replace lens := Lib.hid lens
    (repeat' (first | (with_reducible refine Cend.go ?_) | (with_reducible refine Step.mk True.intro ?_) | (with_reducible refine Step.mk ?_ ?_; focus (((try simp only [true_and, and_true, and_self, kmin, kmax, decide_eq_true_eq, decide_eq_false_iff_not, castD_self, castL_self, List.length_cons, List.length_nil, List.length_append, Int.natCast_add] at *) <;> omega))) | (with_reducible refine Step.mk ?_ ?_) | (with_reducible refine Way.t1 ?_) | (with_reducible refine Way.f1 ?_) | ((with_reducible refine Way.dec (fun _ => ?_) (fun _ => ?_)) <;> try (exfalso; omega)) | (with_reducible refine Way.nt ?_) | (with_reducible refine Way.mk (fun _ => ?_) (fun _ => ?_)) | (with_reducible refine Drawn.mk (by kernel_rfl) ?_) | (refine Run.mk ?_)))
    rw [hC]
    refine loop_by (X := Nat) (fun x => [.put 2 (.v false [.p 2 0]), .put 3 (.v false [.d (.int .i64) (k : Int)]), .put 4 (.v false [.p 4 0]), .put 13 (.v false [.d (.slice tCh) l]), .put 14 (.v false [.d (.int .i64) (l.length : Int)]), .put 15 (.v false [.d (.int .i64) (k : Int)]), .put 28 (.v true [.d (.slice .str) C.2.1, .d (.slice .str) C.2.2.1, .d (.slice .str) C.2.2.2.1, .d (.slice .str) C.2.2.2.2]), .put 29 (.v false [.d (.int .i64) (x : Int)])])
      (fun _ => [.put 2 (.box 25 [.d (.int .i64) 0, .d (.int .i64) 0]), .put 4 (.box 40 [.d .bool C.1, .d (.slice .str) C.2.1, .d (.slice .str) C.2.2.1, .d (.slice .str) C.2.2.2.1, .d (.slice .str) C.2.2.2.2])])
      (fun x => x ≤ 4 ∧ (0 < x → vC C.2.1 = 0) ∧ (1 < x → vC C.2.2.1 = 0) ∧ (2 < x → vC C.2.2.2.1 = 0) ∧ (3 < x → vC C.2.2.2.2 = 0)) (fun x => 4 - x) 0 ⟨by omega, by omega, by omega, by omega, by omega⟩ ?_ ?_
    · (refine Wk.keep ?_ ?_ <;> repeat' (first | exact True.intro | refine And.intro rfl ?_ | refine And.intro (congrArg (fun z : Int => AV.v false [Lf.d (.int .i64) z]) (by first | omega | (simp only [Int.natCast_add, List.length_cons, List.length_append, List.length_nil]; omega))) ?_ | refine And.intro ?_ ?_))
    rintro x ⟨hx, x1, x2, x3, x4⟩
    (try dsimp only at hx x1 x2 x3 x4 ⊢)
    obtain rfl | rfl | rfl | rfl | rfl : x = 0 ∨ x = 1 ∨ x = 2 ∨ x = 3 ∨ x = 4 := by omega
    · clear x1 x2 x3 x4
      (repeat' (first | (with_reducible refine Cend.go ?_) | (with_reducible refine Step.mk True.intro ?_) | (with_reducible refine Step.mk ?_ ?_; focus (((try simp only [true_and, and_true, and_self, kmin, kmax, decide_eq_true_eq, decide_eq_false_iff_not, castD_self, castL_self, List.length_cons, List.length_nil, List.length_append, Int.natCast_add] at *) <;> omega))) | (with_reducible refine Step.mk ?_ ?_) | (with_reducible refine Way.t1 ?_) | (with_reducible refine Way.f1 ?_) | ((with_reducible refine Way.dec (fun _ => ?_) (fun _ => ?_)) <;> try (exfalso; omega)) | (with_reducible refine Way.nt ?_) | (with_reducible refine Way.mk (fun _ => ?_) (fun _ => ?_)) | (with_reducible refine Drawn.mk (by kernel_rfl) ?_) | (refine Run.mk ?_)))
      · rename_i h
        have h : (decide (vC C.2.1 = 0) && decide ((if vC C.2.1 = 0 then (0 : Int) else ((k : Nat) : Int)) = 0)) = true := h
        have h : vC C.2.1 = 0 := fault_eq h
        (refine Back.by (1) ?_ ?_ ?_; focus (refine Wk.keep ?_ ?_ <;> repeat' (first | exact True.intro | refine And.intro rfl ?_ | refine And.intro (congrArg (fun z : Int => AV.v false [Lf.d (.int .i64) z]) (by first | omega | (simp only [Int.natCast_add, List.length_cons, List.length_append, List.length_nil]; omega))) ?_ | refine And.intro ?_ ?_)))
        · exact ⟨by omega, fun _ => h, by omega, by omega, by omega⟩
        · show 4 - 1 < 4 - 0; omega
      · rename_i h
        have h : (decide (vC C.2.1 = 0) && decide ((if vC C.2.1 = 0 then (0 : Int) else ((k : Nat) : Int)) = 0)) = false := h
        have h : ¬ vC C.2.1 = 0 := fault_ne h (fun z => if_pos z)
        obtain ⟨f1, f2⟩ := fin.out (vC C.2.1) (by unfold chC; rw [if_pos h]) h
        refine Ret.mk ?_
        rw [f1, f2]
        show AV.v true [Lf.d (Ty.int .i64) (vC C.2.1), Lf.d (Ty.int .i64) (if vC C.2.1 = 0 then (0 : Int) else ((k : Nat) : Int))] = _
        rw [if_neg h]
    · have x1 := x1 (by omega)
      clear x2 x3 x4
      (repeat' (first | (with_reducible refine Cend.go ?_) | (with_reducible refine Step.mk True.intro ?_) | (with_reducible refine Step.mk ?_ ?_; focus (((try simp only [true_and, and_true, and_self, kmin, kmax, decide_eq_true_eq, decide_eq_false_iff_not, castD_self, castL_self, List.length_cons, List.length_nil, List.length_append, Int.natCast_add] at *) <;> omega))) | (with_reducible refine Step.mk ?_ ?_) | (with_reducible refine Way.t1 ?_) | (with_reducible refine Way.f1 ?_) | ((with_reducible refine Way.dec (fun _ => ?_) (fun _ => ?_)) <;> try (exfalso; omega)) | (with_reducible refine Way.nt ?_) | (with_reducible refine Way.mk (fun _ => ?_) (fun _ => ?_)) | (with_reducible refine Drawn.mk (by kernel_rfl) ?_) | (refine Run.mk ?_)))
      · rename_i h
        have h : (decide (vC C.2.2.1 = 0) && decide ((if vC C.2.2.1 = 0 then (0 : Int) else ((k : Nat) : Int)) = 0)) = true := h
        have h : vC C.2.2.1 = 0 := fault_eq h
        (refine Back.by (2) ?_ ?_ ?_; focus (refine Wk.keep ?_ ?_ <;> repeat' (first | exact True.intro | refine And.intro rfl ?_ | refine And.intro (congrArg (fun z : Int => AV.v false [Lf.d (.int .i64) z]) (by first | omega | (simp only [Int.natCast_add, List.length_cons, List.length_append, List.length_nil]; omega))) ?_ | refine And.intro ?_ ?_)))
        · exact ⟨by omega, fun _ => x1, fun _ => h, by omega, by omega⟩
        · show 4 - 2 < 4 - 1; omega
      · rename_i h
        have h : (decide (vC C.2.2.1 = 0) && decide ((if vC C.2.2.1 = 0 then (0 : Int) else ((k : Nat) : Int)) = 0)) = false := h
        have h : ¬ vC C.2.2.1 = 0 := fault_ne h (fun z => if_pos z)
        obtain ⟨f1, f2⟩ := fin.out (vC C.2.2.1) (by unfold chC; rw [if_neg (fun z => z x1), if_pos h]) h
        refine Ret.mk ?_
        rw [f1, f2]
        show AV.v true [Lf.d (Ty.int .i64) (vC C.2.2.1), Lf.d (Ty.int .i64) (if vC C.2.2.1 = 0 then (0 : Int) else ((k : Nat) : Int))] = _
        rw [if_neg h]
    · have x1 := x1 (by omega)
      have x2 := x2 (by omega)
      clear x3 x4
      (repeat' (first | (with_reducible refine Cend.go ?_) | (with_reducible refine Step.mk True.intro ?_) | (with_reducible refine Step.mk ?_ ?_; focus (((try simp only [true_and, and_true, and_self, kmin, kmax, decide_eq_true_eq, decide_eq_false_iff_not, castD_self, castL_self, List.length_cons, List.length_nil, List.length_append, Int.natCast_add] at *) <;> omega))) | (with_reducible refine Step.mk ?_ ?_) | (with_reducible refine Way.t1 ?_) | (with_reducible refine Way.f1 ?_) | ((with_reducible refine Way.dec (fun _ => ?_) (fun _ => ?_)) <;> try (exfalso; omega)) | (with_reducible refine Way.nt ?_) | (with_reducible refine Way.mk (fun _ => ?_) (fun _ => ?_)) | (with_reducible refine Drawn.mk (by kernel_rfl) ?_) | (refine Run.mk ?_)))
      · rename_i h
        have h : (decide (vC C.2.2.2.1 = 0) && decide ((if vC C.2.2.2.1 = 0 then (0 : Int) else ((k : Nat) : Int)) = 0)) = true := h
        have h : vC C.2.2.2.1 = 0 := fault_eq h
        (refine Back.by (3) ?_ ?_ ?_; focus (refine Wk.keep ?_ ?_ <;> repeat' (first | exact True.intro | refine And.intro rfl ?_ | refine And.intro (congrArg (fun z : Int => AV.v false [Lf.d (.int .i64) z]) (by first | omega | (simp only [Int.natCast_add, List.length_cons, List.length_append, List.length_nil]; omega))) ?_ | refine And.intro ?_ ?_)))
        · exact ⟨by omega, fun _ => x1, fun _ => x2, fun _ => h, by omega⟩
        · show 4 - 3 < 4 - 2; omega
      · rename_i h
        have h : (decide (vC C.2.2.2.1 = 0) && decide ((if vC C.2.2.2.1 = 0 then (0 : Int) else ((k : Nat) : Int)) = 0)) = false := h
        have h : ¬ vC C.2.2.2.1 = 0 := fault_ne h (fun z => if_pos z)
        obtain ⟨f1, f2⟩ := fin.out (vC C.2.2.2.1) (by unfold chC; rw [if_neg (fun z => z x1), if_neg (fun z => z x2), if_pos h]) h
        refine Ret.mk ?_
        rw [f1, f2]
        show AV.v true [Lf.d (Ty.int .i64) (vC C.2.2.2.1), Lf.d (Ty.int .i64) (if vC C.2.2.2.1 = 0 then (0 : Int) else ((k : Nat) : Int))] = _
        rw [if_neg h]
    · have x1 := x1 (by omega)
      have x2 := x2 (by omega)
      have x3 := x3 (by omega)
      clear x4
      (repeat' (first | (with_reducible refine Cend.go ?_) | (with_reducible refine Step.mk True.intro ?_) | (with_reducible refine Step.mk ?_ ?_; focus (((try simp only [true_and, and_true, and_self, kmin, kmax, decide_eq_true_eq, decide_eq_false_iff_not, castD_self, castL_self, List.length_cons, List.length_nil, List.length_append, Int.natCast_add] at *) <;> omega))) | (with_reducible refine Step.mk ?_ ?_) | (with_reducible refine Way.t1 ?_) | (with_reducible refine Way.f1 ?_) | ((with_reducible refine Way.dec (fun _ => ?_) (fun _ => ?_)) <;> try (exfalso; omega)) | (with_reducible refine Way.nt ?_) | (with_reducible refine Way.mk (fun _ => ?_) (fun _ => ?_)) | (with_reducible refine Drawn.mk (by kernel_rfl) ?_) | (refine Run.mk ?_)))
      · rename_i h
        have h : (decide (vC C.2.2.2.2 = 0) && decide ((if vC C.2.2.2.2 = 0 then (0 : Int) else ((k : Nat) : Int)) = 0)) = true := h
        have h : vC C.2.2.2.2 = 0 := fault_eq h
        (refine Back.by (4) ?_ ?_ ?_; focus (refine Wk.keep ?_ ?_ <;> repeat' (first | exact True.intro | refine And.intro rfl ?_ | refine And.intro (congrArg (fun z : Int => AV.v false [Lf.d (.int .i64) z]) (by first | omega | (simp only [Int.natCast_add, List.length_cons, List.length_append, List.length_nil]; omega))) ?_ | refine And.intro ?_ ?_)))
        · exact ⟨by omega, fun _ => x1, fun _ => x2, fun _ => x3, fun _ => h⟩
        · show 4 - 4 < 4 - 3; omega
      · rename_i h
        have h : (decide (vC C.2.2.2.2 = 0) && decide ((if vC C.2.2.2.2 = 0 then (0 : Int) else ((k : Nat) : Int)) = 0)) = false := h
        have h : ¬ vC C.2.2.2.2 = 0 := fault_ne h (fun z => if_pos z)
        obtain ⟨f1, f2⟩ := fin.out (vC C.2.2.2.2) (by unfold chC; rw [if_neg (fun z => z x1), if_neg (fun z => z x2), if_neg (fun z => z x3), if_pos h]) h
        refine Ret.mk ?_
        rw [f1, f2]
        show AV.v true [Lf.d (Ty.int .i64) (vC C.2.2.2.2), Lf.d (Ty.int .i64) (if vC C.2.2.2.2 = 0 then (0 : Int) else ((k : Nat) : Int))] = _
        rw [if_neg h]
    · have x1 := x1 (by omega)
      have x2 := x2 (by omega)
      have x3 := x3 (by omega)
      have x4 := x4 (by omega)
      obtain ⟨m0, m1, m2, m3⟩ := lens.out x1 x2 x3 x4
      cases hb : C.1
      · (repeat' (first | (with_reducible refine Cend.go ?_) | (with_reducible refine Step.mk True.intro ?_) | (with_reducible refine Step.mk ?_ ?_; focus (((try simp only [true_and, and_true, and_self, kmin, kmax, decide_eq_true_eq, decide_eq_false_iff_not, castD_self, castL_self, List.length_cons, List.length_nil, List.length_append, Int.natCast_add] at *) <;> omega))) | (with_reducible refine Step.mk ?_ ?_) | (with_reducible refine Way.t1 ?_) | (with_reducible refine Way.f1 ?_) | ((with_reducible refine Way.dec (fun _ => ?_) (fun _ => ?_)) <;> try (exfalso; omega)) | (with_reducible refine Way.nt ?_) | (with_reducible refine Way.mk (fun _ => ?_) (fun _ => ?_)) | (with_reducible refine Drawn.mk (by kernel_rfl) ?_) | (refine Run.mk ?_)))
        all_goals first
          | (refine Ret.mk ?_
             obtain ⟨f1, f2⟩ := fin.out 5 (by unfold chC; rw [if_neg (fun z => z x1), if_neg (fun z => z x2), if_neg (fun z => z x3), if_neg (fun z => z x4), if_pos (.inr ⟨hb, by omega⟩)]) (by decide)
             rw [f1, f2]
             rfl)
          | (refine Back.by (k + 1) ?_ ?_ ?_
             · (refine Wk.keep ?_ ?_ <;> repeat' (first | exact True.intro | refine And.intro rfl ?_ | refine And.intro (congrArg (fun z : Int => AV.v false [Lf.d (.int .i64) z]) (by first | omega | (simp only [Int.natCast_add, List.length_cons, List.length_append, List.length_nil]; omega))) ?_ | refine And.intro ?_ ?_))
             · obtain ⟨n1, n2⟩ := nxt.out (chC_good.2 ⟨x1, x2, x3, x4, by rintro (⟨z, y⟩ | ⟨z, y⟩) <;> first | (rw [hb] at z; cases z; done) | omega⟩)
               exact ⟨hlt, n1, n2⟩
             · show l.length - (k + 1) < l.length - k; omega)
      · (repeat' (first | (with_reducible refine Cend.go ?_) | (with_reducible refine Step.mk True.intro ?_) | (with_reducible refine Step.mk ?_ ?_; focus (((try simp only [true_and, and_true, and_self, kmin, kmax, decide_eq_true_eq, decide_eq_false_iff_not, castD_self, castL_self, List.length_cons, List.length_nil, List.length_append, Int.natCast_add] at *) <;> omega))) | (with_reducible refine Step.mk ?_ ?_) | (with_reducible refine Way.t1 ?_) | (with_reducible refine Way.f1 ?_) | ((with_reducible refine Way.dec (fun _ => ?_) (fun _ => ?_)) <;> try (exfalso; omega)) | (with_reducible refine Way.nt ?_) | (with_reducible refine Way.mk (fun _ => ?_) (fun _ => ?_)) | (with_reducible refine Drawn.mk (by kernel_rfl) ?_) | (refine Run.mk ?_)))
        all_goals first
          | (refine Ret.mk ?_
             obtain ⟨f1, f2⟩ := fin.out 5 (by unfold chC; rw [if_neg (fun z => z x1), if_neg (fun z => z x2), if_neg (fun z => z x3), if_neg (fun z => z x4), if_pos (.inl ⟨hb, by omega⟩)]) (by decide)
             rw [f1, f2]
             rfl)
          | (refine Back.by (k + 1) ?_ ?_ ?_
             · (refine Wk.keep ?_ ?_ <;> repeat' (first | exact True.intro | refine And.intro rfl ?_ | refine And.intro (congrArg (fun z : Int => AV.v false [Lf.d (.int .i64) z]) (by first | omega | (simp only [Int.natCast_add, List.length_cons, List.length_append, List.length_nil]; omega))) ?_ | refine And.intro ?_ ?_))
             · obtain ⟨n1, n2⟩ := nxt.out (chC_good.2 ⟨x1, x2, x3, x4, by rintro (⟨z, y⟩ | ⟨z, y⟩) <;> first | (rw [hb] at z; cases z; done) | omega⟩)
               exact ⟨hlt, n1, n2⟩
             · show l.length - (k + 1) < l.length - k; omega)
  · have e1 : ckC l = 0 := by rw [hcC, List.drop_eq_nil_of_le (by omega)]; rfl
    have e2 : ckI l = 0 := ckI_good l e1
    rw [e1, e2]
    clear hcC hcI
    (repeat' (first | (with_reducible refine Cend.go ?_) | (with_reducible refine Step.mk True.intro ?_) | (with_reducible refine Step.mk ?_ ?_; focus (((try simp only [true_and, and_true, and_self, kmin, kmax, decide_eq_true_eq, decide_eq_false_iff_not, castD_self, castL_self, List.length_cons, List.length_nil, List.length_append, Int.natCast_add] at *) <;> omega))) | (with_reducible refine Step.mk ?_ ?_) | (with_reducible refine Way.t1 ?_) | (with_reducible refine Way.f1 ?_) | ((with_reducible refine Way.dec (fun _ => ?_) (fun _ => ?_)) <;> try (exfalso; omega)) | (with_reducible refine Way.nt ?_) | (with_reducible refine Way.mk (fun _ => ?_) (fun _ => ?_)) | (with_reducible refine Drawn.mk (by kernel_rfl) ?_) | (refine Run.mk ?_)))
    all_goals first | exact Ret.mk rfl | skip
end Go.Proofs.Ytppmhjaooiameaa
