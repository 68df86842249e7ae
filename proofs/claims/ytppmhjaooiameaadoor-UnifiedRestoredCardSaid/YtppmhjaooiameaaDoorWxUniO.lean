/- The walk of unified.offset. -/
import Derived.Test.YtppmhjaooiameaaDoorUniPure
import Derived.Test.YtppmhjaooiameaaDoorWxApply
namespace Go.Proofs.YtppmhjaooiameaaDoor
open Go.RowKit
set_option maxRecDepth 20000
set_option linter.unusedSimpArgs false

def sp_offset : SpecF := pureSp false [.slice .str, tHk, .int .i64, .int .i64] (fun (_, h', r', l', _) => HkOk h' ∧ (0 ≤ r' ∧ r' ≤ 120) ∧ -1000000 ≤ l' ∧ l' ≤ 1000000) (fun (t', h', r', l', _) => .tu [(false, [.d (.int .i64) ((ofD t' h' r' l').getD 0)]), (false, [.d .bool (ofD t' h' r' l').isSome])])
theorem offset_sp : SpFact 28 sp_offset := by
  refine ⟨⟨Tryd.f28, rfl, rfl, rfl, pureSp_ok (env_fine (sp := [(36, sp_Occurs)]) (eq := []) ⟨Occurs_sp, True.intro⟩ True.intro) rfl (fun ⟨_, _, _, _, _⟩ _ => rfl) ?_⟩, pureSp_loc _ _ _ _⟩
  rintro ⟨t, ⟨ha, hold, hnew⟩, r, l, u⟩ - ⟨ho, ⟨hr0, hr1⟩, hl0, hl1⟩
  change List ByteArray at t hold hnew
  change Int at ha r l
  replace hr0 : 0 ≤ r := hr0
  replace hr1 : r ≤ 120 := hr1
  replace hl0 : -1000000 ≤ l := hl0
  replace hl1 : l ≤ 1000000 := hl1
  obtain ⟨o1, o2, o3, o4⟩ := ho
  replace o1 : 0 ≤ ha := o1
  replace o2 : ha ≤ 120 := o2
  obtain ⟨m0, hm0⟩ : ∃ m0, (r + 1).toNat = m0 := ⟨_, rfl⟩
  have hm : (m0 : Int) = r + 1 := by omega
  have hD : ofD t (ha, hold, hnew) r l = ofS t (ha, hold, hnew) l m0 0 := by unfold ofD; rw [hm0]
  replace hD := Lib.hid hD
  (refine fnM_of rfl rfl rfl rfl ?_; dsimp only [params, argAV, Ty.leaves, Ty.isSt])
  (repeat' (first | (with_reducible refine Cend.go ?_) | (with_reducible refine Step.mk True.intro ?_) | (with_reducible refine Step.mk ?_ ?_; focus (((try simp only [true_and, and_true, and_self, kmin, kmax, decide_eq_true_eq, decide_eq_false_iff_not, castD_self, castL_self, List.length_cons, List.length_nil, List.length_append, Int.natCast_add] at *) <;> omega))) | (with_reducible refine Step.mk ?_ ?_) | (with_reducible refine Way.t1 ?_) | (with_reducible refine Way.f1 ?_) | ((with_reducible refine Way.dec (fun _ => ?_) (fun _ => ?_)) <;> try (exfalso; omega)) | (with_reducible refine Way.nt ?_) | (with_reducible refine Way.mk (fun _ => ?_) (fun _ => ?_)) | (with_reducible refine Drawn.mk (by kernel_rfl) ?_) | (refine Run.mk ?_)))
  refine loop_by (X := Nat) (fun n => [.put 0 (.v false [.d (.slice .str) t]), .put 3 (.v false [.d (.int .i64) l]), .put 5 (.v false [.p 5 0]), .put 14 (.v false [.d (.int .i64) (r + 1)]), .put 15 (.v false [.d (.int .i64) (n : Int)])])
    (fun _ => [.put 5 (.box 41 [.d (.int .i64) ha, .d (.slice .str) hold, .d (.slice .str) hnew])]) (fun n => n ≤ m0 ∧ ofD t (ha, hold, hnew) r l = ofS t (ha, hold, hnew) l (m0 - n) n) (fun n => m0 - n) 0 ⟨Nat.zero_le _, hD.out⟩ ?_ ?_
  · (refine Wk.keep ?_ ?_ <;> repeat' (first | exact True.intro | refine And.intro rfl ?_ | refine And.intro (congrArg (fun z : Int => AV.v false [Lf.d (.int .i64) z]) (by first | omega | (simp only [Int.natCast_add, List.length_cons, List.length_append, List.length_nil]; omega))) ?_ | refine And.intro ?_ ?_))
  rintro n ⟨hn, hS⟩
  (try dsimp only at hn hS ⊢)
  by_cases hnt : n < m0
  · obtain ⟨m', hm'⟩ : ∃ m', m0 - n = m' + 1 := ⟨m0 - n - 1, by omega⟩
    rw [hm'] at hS
    have hm2 : m0 - (n + 1) = m' := by omega
    have hSn : ofOk t (ha, hold, hnew) l (-(n : Int)) = true → ofD t (ha, hold, hnew) r l = some (-(n : Int)) := fun z => hS.trans (if_pos z)
    have hSp : ofOk t (ha, hold, hnew) l (-(n : Int)) = false → ofOk t (ha, hold, hnew) l (n : Int) = true → ofD t (ha, hold, hnew) r l = some (n : Int) := fun z y => hS.trans ((if_neg (by rw [z]; decide)).trans (if_pos y))
    have hSe : ofOk t (ha, hold, hnew) l (-(n : Int)) = false → ofOk t (ha, hold, hnew) l (n : Int) = false → ofD t (ha, hold, hnew) r l = ofS t (ha, hold, hnew) l (m0 - (n + 1)) ((n + 1 : Nat) : Int) := fun z y => hS.trans ((if_neg (by rw [z]; decide)).trans ((if_neg (by rw [y]; decide)).trans (by rw [hm2]; rfl)))
    have okT : ∀ d : Int, l ≤ ha + d → occ t hold (ha + d) = true → ofOk t (ha, hold, hnew) l d = true := fun d z y => by unfold ofOk; dsimp only; rw [y, decide_eq_true z]; rfl
    have okF1 : ∀ d : Int, ¬ l ≤ ha + d → ofOk t (ha, hold, hnew) l d = false := fun d z => by unfold ofOk; dsimp only; rw [decide_eq_false z]; rfl
    have okF2 : ∀ d : Int, occ t hold (ha + d) = false → ofOk t (ha, hold, hnew) l d = false := fun d y => by unfold ofOk; dsimp only; rw [y, Bool.and_false]
    clear hS
    replace hSn := Lib.hid hSn
    replace hSp := Lib.hid hSp
    replace hSe := Lib.hid hSe
    replace okT := Lib.hid okT
    replace okF1 := Lib.hid okF1
    replace okF2 := Lib.hid okF2
    (repeat' (first | (with_reducible refine Cend.go ?_) | (with_reducible refine Step.mk True.intro ?_) | (with_reducible refine Step.mk ?_ ?_; focus (((try simp only [true_and, and_true, and_self, kmin, kmax, decide_eq_true_eq, decide_eq_false_iff_not, castD_self, castL_self, List.length_cons, List.length_nil, List.length_append, Int.natCast_add] at *) <;> omega))) | (with_reducible refine Step.mk ?_ ?_) | (with_reducible refine Way.t1 ?_) | (with_reducible refine Way.f1 ?_) | ((with_reducible refine Way.dec (fun _ => ?_) (fun _ => ?_)) <;> try (exfalso; omega)) | (with_reducible refine Way.nt ?_) | (with_reducible refine Way.mk (fun _ => ?_) (fun _ => ?_)) | (with_reducible refine Drawn.mk (by kernel_rfl) ?_) | (refine Run.mk ?_)))
    · show -9223372036854775808 ≤ -(n : Int) ∧ -(n : Int) ≤ 9223372036854775807
      omega
    refine loop_by (X := Nat) (fun i => [.put 0 (.v false [.d (.slice .str) t]), .put 3 (.v false [.d (.int .i64) l]), .put 5 (.v false [.p 5 0]), .put 14 (.v false [.d (.int .i64) (r + 1)]), .put 15 (.v false [.d (.int .i64) (n : Int)]), .put 21 (.v true [.d (.int .i64) (-(n : Int)), .d (.int .i64) (n : Int)]), .put 22 (.v false [.d (.int .i64) (i : Int)])])
      (fun _ => [.put 5 (.box 41 [.d (.int .i64) ha, .d (.slice .str) hold, .d (.slice .str) hnew])]) (fun i => i ≤ 2 ∧ (0 < i → ofOk t (ha, hold, hnew) l (-(n : Int)) = false) ∧ (1 < i → ofOk t (ha, hold, hnew) l (n : Int) = false)) (fun i => 2 - i) 0 ⟨Nat.zero_le _, fun z => absurd z (by decide), fun z => absurd z (by decide)⟩ ?_ ?_
    · (refine Wk.keep ?_ ?_ <;> repeat' (first | exact True.intro | refine And.intro rfl ?_ | refine And.intro (congrArg (fun z : Int => AV.v false [Lf.d (.int .i64) z]) (by first | omega | (simp only [Int.natCast_add, List.length_cons, List.length_append, List.length_nil]; omega))) ?_ | refine And.intro ?_ ?_))
    rintro i ⟨hi, hi0, hi1⟩
    (try dsimp only at hi hi0 hi1 ⊢)
    rcases (show i = 0 ∨ i = 1 ∨ i = 2 by omega) with rfl | rfl | rfl
    · clear hi0 hi1
      (repeat' (first | (with_reducible refine Cend.go ?_) | (with_reducible refine Step.mk True.intro ?_) | (with_reducible refine Step.mk ?_ ?_; focus (((try simp only [true_and, and_true, and_self, kmin, kmax, decide_eq_true_eq, decide_eq_false_iff_not, castD_self, castL_self, List.length_cons, List.length_nil, List.length_append, Int.natCast_add] at *) <;> omega))) | (with_reducible refine Step.mk ?_ ?_) | (with_reducible refine Way.t1 ?_) | (with_reducible refine Way.f1 ?_) | ((with_reducible refine Way.dec (fun _ => ?_) (fun _ => ?_)) <;> try (exfalso; omega)) | (with_reducible refine Way.nt ?_) | (with_reducible refine Way.mk (fun _ => ?_) (fun _ => ?_)) | (with_reducible refine Drawn.mk (by kernel_rfl) ?_) | (refine Run.mk ?_)))
      · rename_i q1 q2
        refine Ret.mk ?_
        dsimp only
        rw [hSn.out (okT.out _ q1 q2)]
        rfl
      · rename_i q1 q2
        refine Back.by 1 ?_ ?_ ?_
        · (refine Wk.keep ?_ ?_ <;> repeat' (first | exact True.intro | refine And.intro rfl ?_ | refine And.intro (congrArg (fun z : Int => AV.v false [Lf.d (.int .i64) z]) (by first | omega | (simp only [Int.natCast_add, List.length_cons, List.length_append, List.length_nil]; omega))) ?_ | refine And.intro ?_ ?_))
        · exact ⟨by decide, fun _ => okF2.out _ q2, fun z => absurd z (by decide)⟩
        · decide
      · rename_i q1
        refine Back.by 1 ?_ ?_ ?_
        · (refine Wk.keep ?_ ?_ <;> repeat' (first | exact True.intro | refine And.intro rfl ?_ | refine And.intro (congrArg (fun z : Int => AV.v false [Lf.d (.int .i64) z]) (by first | omega | (simp only [Int.natCast_add, List.length_cons, List.length_append, List.length_nil]; omega))) ?_ | refine And.intro ?_ ?_))
        · exact ⟨by decide, fun _ => okF1.out _ q1, fun z => absurd z (by decide)⟩
        · decide
    · have hi0 := hi0 (by decide)
      clear hi1
      replace hi0 := Lib.hid hi0
      (repeat' (first | (with_reducible refine Cend.go ?_) | (with_reducible refine Step.mk True.intro ?_) | (with_reducible refine Step.mk ?_ ?_; focus (((try simp only [true_and, and_true, and_self, kmin, kmax, decide_eq_true_eq, decide_eq_false_iff_not, castD_self, castL_self, List.length_cons, List.length_nil, List.length_append, Int.natCast_add] at *) <;> omega))) | (with_reducible refine Step.mk ?_ ?_) | (with_reducible refine Way.t1 ?_) | (with_reducible refine Way.f1 ?_) | ((with_reducible refine Way.dec (fun _ => ?_) (fun _ => ?_)) <;> try (exfalso; omega)) | (with_reducible refine Way.nt ?_) | (with_reducible refine Way.mk (fun _ => ?_) (fun _ => ?_)) | (with_reducible refine Drawn.mk (by kernel_rfl) ?_) | (refine Run.mk ?_)))
      · rename_i q1 q2
        refine Ret.mk ?_
        dsimp only
        rw [hSp.out hi0.out (okT.out _ q1 q2)]
        rfl
      · rename_i q1 q2
        refine Back.by 2 ?_ ?_ ?_
        · (refine Wk.keep ?_ ?_ <;> repeat' (first | exact True.intro | refine And.intro rfl ?_ | refine And.intro (congrArg (fun z : Int => AV.v false [Lf.d (.int .i64) z]) (by first | omega | (simp only [Int.natCast_add, List.length_cons, List.length_append, List.length_nil]; omega))) ?_ | refine And.intro ?_ ?_))
        · exact ⟨by decide, fun _ => hi0.out, fun _ => okF2.out _ q2⟩
        · decide
      · rename_i q1
        refine Back.by 2 ?_ ?_ ?_
        · (refine Wk.keep ?_ ?_ <;> repeat' (first | exact True.intro | refine And.intro rfl ?_ | refine And.intro (congrArg (fun z : Int => AV.v false [Lf.d (.int .i64) z]) (by first | omega | (simp only [Int.natCast_add, List.length_cons, List.length_append, List.length_nil]; omega))) ?_ | refine And.intro ?_ ?_))
        · exact ⟨by decide, fun _ => hi0.out, fun _ => okF1.out _ q1⟩
        · decide
    · have hi0 := hi0 (by decide)
      have hi1 := hi1 (by decide)
      (repeat' (first | (with_reducible refine Cend.go ?_) | (with_reducible refine Step.mk True.intro ?_) | (with_reducible refine Step.mk ?_ ?_; focus (((try simp only [true_and, and_true, and_self, kmin, kmax, decide_eq_true_eq, decide_eq_false_iff_not, castD_self, castL_self, List.length_cons, List.length_nil, List.length_append, Int.natCast_add] at *) <;> omega))) | (with_reducible refine Step.mk ?_ ?_) | (with_reducible refine Way.t1 ?_) | (with_reducible refine Way.f1 ?_) | ((with_reducible refine Way.dec (fun _ => ?_) (fun _ => ?_)) <;> try (exfalso; omega)) | (with_reducible refine Way.nt ?_) | (with_reducible refine Way.mk (fun _ => ?_) (fun _ => ?_)) | (with_reducible refine Drawn.mk (by kernel_rfl) ?_) | (refine Run.mk ?_)))
      refine Back.by (n + 1) ?_ ?_ ?_
      · (refine Wk.keep ?_ ?_ <;> repeat' (first | exact True.intro | refine And.intro rfl ?_ | refine And.intro (congrArg (fun z : Int => AV.v false [Lf.d (.int .i64) z]) (by first | omega | (simp only [Int.natCast_add, List.length_cons, List.length_append, List.length_nil]; omega))) ?_ | refine And.intro ?_ ?_))
      · exact ⟨hnt, hSe.out hi0 hi1⟩
      · show m0 - (n + 1) < m0 - n; omega
  · have en : m0 - n = 0 := by omega
    rw [en] at hS
    have hS : ofD t (ha, hold, hnew) r l = none := hS
    (try dsimp only)
    rw [hS]
    clear hS
    (repeat' (first | (with_reducible refine Cend.go ?_) | (with_reducible refine Step.mk True.intro ?_) | (with_reducible refine Step.mk ?_ ?_; focus (((try simp only [true_and, and_true, and_self, kmin, kmax, decide_eq_true_eq, decide_eq_false_iff_not, castD_self, castL_self, List.length_cons, List.length_nil, List.length_append, Int.natCast_add] at *) <;> omega))) | (with_reducible refine Step.mk ?_ ?_) | (with_reducible refine Way.t1 ?_) | (with_reducible refine Way.f1 ?_) | ((with_reducible refine Way.dec (fun _ => ?_) (fun _ => ?_)) <;> try (exfalso; omega)) | (with_reducible refine Way.nt ?_) | (with_reducible refine Way.mk (fun _ => ?_) (fun _ => ?_)) | (with_reducible refine Drawn.mk (by kernel_rfl) ?_) | (refine Run.mk ?_)))
    exact Ret.mk rfl
end Go.Proofs.YtppmhjaooiameaaDoor
