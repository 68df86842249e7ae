/- Law UnifiedShifted. -/
import Derived.Test.YtppmhjaooiameaaDoorWxUniF
import Derived.Test.YtppmhjaooiameaaDoorWxUniS
import Derived.Test.YtppmhjaooiameaaDoorUniShift
namespace Go.Proofs.YtppmhjaooiameaaDoor
open Go.RowKit
set_option maxRecDepth 20000
set_option linter.unusedSimpArgs false
def sp_Ints : SpecF := pureSp true [.slice (.int .i64), .slice (.int .i64)] (fun _ => True) (fun (a', b', _) => .v false [.d .bool (decide (a' = b'))])
theorem Ints_sp : SpFact 12 sp_Ints := by
  refine ⟨⟨Tryd.f12, rfl, rfl, rfl, pureSp_ok (env_fine (sp := []) (eq := []) True.intro True.intro) rfl (fun ⟨_, _, _⟩ _ => rfl) ?_⟩, pureSp_loc _ _ _ _⟩
  rintro ⟨a, b, u⟩ ⟨⟨ha, -⟩, ⟨hb, -⟩, -⟩ -
  rw [maxLen_eq] at ha hb
  change List Int at a b
  dsimp only at ha hb ⊢
  (refine fnM_of rfl rfl rfl rfl ?_; dsimp only [params, argAV, Ty.leaves, Ty.isSt])
  (repeat' (first | (with_reducible refine Cend.go ?_) | (with_reducible refine Step.mk True.intro ?_) | (with_reducible refine Step.mk ?_ ?_; focus (((try simp only [true_and, and_true, and_self, kmin, kmax, decide_eq_true_eq, decide_eq_false_iff_not, castD_self, castL_self, List.length_cons, List.length_nil, List.length_append, Int.natCast_add] at *) <;> omega))) | (with_reducible refine Step.mk ?_ ?_) | (with_reducible refine Way.t1 ?_) | (with_reducible refine Way.f1 ?_) | ((with_reducible refine Way.dec (fun _ => ?_) (fun _ => ?_)) <;> try (exfalso; omega)) | (with_reducible refine Way.nt ?_) | (with_reducible refine Way.mk (fun _ => ?_) (fun _ => ?_)) | (with_reducible refine Drawn.mk (by kernel_rfl) ?_) | (refine Run.mk ?_)))
  · rename_i h
    have h : a.length = b.length := by omega
    refine loop_by (X := Nat) (fun i => [.put 0 (.v false [.d (.slice (.int .i64)) a]), .put 1 (.v false [.d (.slice (.int .i64)) b]), .put 5 (.v false [.d (.int .i64) (i : Int)])]) (fun _ => []) (fun i => i ≤ a.length ∧ a.take i = b.take i) (fun i => a.length - i) 0 ⟨Nat.zero_le _, rfl⟩ ?_ ?_
    · (refine Wk.keep ?_ ?_ <;> repeat' (first | exact True.intro | refine And.intro rfl ?_ | refine And.intro (congrArg (fun z : Int => AV.v false [Lf.d (.int .i64) z]) (by first | omega | (simp only [Int.natCast_add, List.length_cons, List.length_append, List.length_nil]; omega))) ?_ | refine And.intro ?_ ?_))
    rintro i ⟨hi, ht⟩
    by_cases hlt : i < a.length
    · have ga := getD_at (a := a) (Ty.int .i64).dflt hlt
      have gb := getD_at (a := b) (Ty.int .i64).dflt (show i < b.length by omega)
      replace ht := Lib.hid ht
      replace ga := Lib.hid ga
      replace gb := Lib.hid gb
      (repeat' (first | (with_reducible refine Cend.go ?_) | (with_reducible refine Step.mk True.intro ?_) | (with_reducible refine Step.mk ?_ ?_; focus (((try simp only [true_and, and_true, and_self, kmin, kmax, decide_eq_true_eq, decide_eq_false_iff_not, castD_self, castL_self, List.length_cons, List.length_nil, List.length_append, Int.natCast_add] at *) <;> omega))) | (with_reducible refine Step.mk ?_ ?_) | (with_reducible refine Way.t1 ?_) | (with_reducible refine Way.f1 ?_) | ((with_reducible refine Way.dec (fun _ => ?_) (fun _ => ?_)) <;> try (exfalso; omega)) | (with_reducible refine Way.nt ?_) | (with_reducible refine Way.mk (fun _ => ?_) (fun _ => ?_)) | (with_reducible refine Drawn.mk (by kernel_rfl) ?_) | (refine Run.mk ?_)))
      · rename_i h2
        have h2 : a.getD ((i : Int)).toNat (Ty.int .i64).dflt = b.getD ((i : Int)).toNat (Ty.int .i64).dflt := by
          first
            | exact h2
            | omega
        rw [ga.out, gb.out] at h2
        (refine Back.by (i + 1) ?_ ?_ ?_; focus (refine Wk.keep ?_ ?_ <;> repeat' (first | exact True.intro | refine And.intro rfl ?_ | refine And.intro (congrArg (fun z : Int => AV.v false [Lf.d (.int .i64) z]) (by first | omega | (simp only [Int.natCast_add, List.length_cons, List.length_append, List.length_nil]; omega))) ?_ | refine And.intro ?_ ?_)))
        · exact ⟨hlt, take_next hlt (by omega) ht.out h2⟩
        · show a.length - (i + 1) < a.length - i; omega
      · rename_i h2
        have h2 : ¬ a.getD ((i : Int)).toNat (Ty.int .i64).dflt = b.getD ((i : Int)).toNat (Ty.int .i64).dflt := by
          first
            | exact h2
            | omega
        rw [ga.out, gb.out] at h2
        (refine Ret.mk (show AV.v false [Lf.d .bool false] = AV.v false [Lf.d .bool _] from congrArg (fun z => AV.v false [Lf.d .bool z]) (Eq.symm (decide_eq_false (ne_at hlt (show i < b.length by omega) h2)))))
    · (repeat' (first | (with_reducible refine Cend.go ?_) | (with_reducible refine Step.mk True.intro ?_) | (with_reducible refine Step.mk ?_ ?_; focus (((try simp only [true_and, and_true, and_self, kmin, kmax, decide_eq_true_eq, decide_eq_false_iff_not, castD_self, castL_self, List.length_cons, List.length_nil, List.length_append, Int.natCast_add] at *) <;> omega))) | (with_reducible refine Step.mk ?_ ?_) | (with_reducible refine Way.t1 ?_) | (with_reducible refine Way.f1 ?_) | ((with_reducible refine Way.dec (fun _ => ?_) (fun _ => ?_)) <;> try (exfalso; omega)) | (with_reducible refine Way.nt ?_) | (with_reducible refine Way.mk (fun _ => ?_) (fun _ => ?_)) | (with_reducible refine Drawn.mk (by kernel_rfl) ?_) | (refine Run.mk ?_)))
      have : a = b := take_eq_all h (by rw [show a.length = i by omega]; exact ht)
      (refine Ret.mk (show AV.v false [Lf.d .bool true] = AV.v false [Lf.d .bool _] from congrArg (fun z => AV.v false [Lf.d .bool z]) (Eq.symm (decide_eq_true this))))
  · rename_i h
    (refine Ret.mk (show AV.v false [Lf.d .bool false] = AV.v false [Lf.d .bool _] from congrArg (fun z => AV.v false [Lf.d .bool z]) (Eq.symm (decide_eq_false (by rintro rfl; exact h rfl)))))
theorem apL_len {p : List Hk} {t : List ByteArray} (h : (apF p t).1 = 0) : (apL p t).length ≤ 120 := by
  unfold apL; rw [if_pos h]; exact (apF_good h).2.2.2
attribute [local irreducible] apF apL fuC fuT fuL
set_option maxHeartbeats 2000000 in
theorem law_UnifiedShifted : SpFact 5 (pureSp false [.slice .str, tPat, .int .i64] (fun _ => True) (fun _ => .v false [.d .bool true])) := by
  refine ⟨⟨Tryd.f5, rfl, rfl, rfl, pureSp_ok (env_fine (sp := [(14, sp_Apply), (9, sp_Fuzzy), (11, sp_Strings), (12, sp_Ints), (13, sp_shown)]) (eq := []) ⟨Apply_sp, Fuzzy_sp, Strings_sp, Ints_sp, shown_sp, True.intro⟩ True.intro) rfl (fun _ _ => rfl) ?_⟩, pureSp_loc _ _ _ _⟩
  rintro ⟨t, p, n, u⟩ ⟨⟨ht, -⟩, ⟨hpl, hps⟩, -, -⟩ -
  change List Hk at p
  change List ByteArray at t
  change Int at n
  rw [maxLen_eq] at ht hpl
  dsimp only at ht hpl
  replace hps := Lib.hid hps
  by_cases hc : 0 ≤ n ∧ n ≤ 20 ∧ p.length = 1
  · obtain ⟨h0, h20, hp1⟩ := hc
    obtain ⟨h, rfl⟩ := List.length_eq_one_iff.1 hp1
    obtain ⟨m, rfl⟩ : ∃ m : Nat, n = m := ⟨n.toNat, by omega⟩
    obtain ⟨q1, ⟨q2, -⟩, ⟨q3, -⟩⟩ := hps.out h List.mem_cons_self
    have q2 : h.2.1.length ≤ maxLen := q2
    rw [maxLen_eq] at q2
    have q2' : (([h] : List Hk).getD (Int.toNat 0) tHk.dflt).2.1.length ≤ 9223372036854775807 := q2
    by_cases ho : h.2.1.length = 0
    · have ho' : (([h] : List Hk).getD (Int.toNat 0) tHk.dflt).2.1.length = 0 := ho
      (refine fnM_of rfl rfl rfl rfl ?_; dsimp only [params, argAV, Ty.leaves, Ty.isSt])
      (repeat' (first | (with_reducible refine Cend.go ?_) | (with_reducible refine Step.mk True.intro ?_) | (with_reducible refine Step.mk ?_ ?_; focus (((try simp only [true_and, and_true, and_self, kmin, kmax, decide_eq_true_eq, decide_eq_false_iff_not, castD_self, castL_self, List.length_cons, List.length_nil, List.length_append, Int.natCast_add] at *) <;> omega))) | (with_reducible refine Step.mk ?_ ?_) | (with_reducible refine Way.t1 ?_) | (with_reducible refine Way.f1 ?_) | ((with_reducible refine Way.dec (fun _ => ?_) (fun _ => ?_)) <;> try (exfalso; omega)) | (with_reducible refine Way.nt ?_) | (with_reducible refine Way.mk (fun _ => ?_) (fun _ => ?_)) | (with_reducible refine Drawn.mk (by kernel_rfl) ?_) | (refine Run.mk ?_)))
      all_goals try exact Ret.mk rfl
    have ho' : ¬ (([h] : List Hk).getD (Int.toNat 0) tHk.dflt).2.1.length = 0 := ho
    by_cases ha : (apF [h] t).1 = 0
    · obtain ⟨a1, a2, a3, a4⟩ := apF_good ha
      have a5 := vC_len t a2
      have a6 := apL_len ha
      obtain ⟨-, -, a7⟩ := pC_iff.1 a1
      obtain ⟨g1, g2, g3, g4, g5, g6⟩ := a7 h List.mem_cons_self
      have g7 := vC_len _ g3
      have hv := Lib.hid ha
      (refine fnM_of rfl rfl rfl rfl ?_; dsimp only [params, argAV, Ty.leaves, Ty.isSt])
      (repeat' (first | (with_reducible refine Cend.go ?_) | (with_reducible refine Step.mk True.intro ?_) | (with_reducible refine Step.mk ?_ ?_; focus (((try simp only [true_and, and_true, and_self, kmin, kmax, decide_eq_true_eq, decide_eq_false_iff_not, castD_self, castL_self, List.length_cons, List.length_nil, List.length_append, Int.natCast_add] at *) <;> omega))) | (with_reducible refine Step.mk ?_ ?_) | (with_reducible refine Way.t1 ?_) | (with_reducible refine Way.f1 ?_) | ((with_reducible refine Way.dec (fun zz => ?_) (fun zz => ?_)) <;> (try simp only [castD_self, castL_self] at zz) <;> try (exfalso; first | omega | contradiction)) | (with_reducible refine Way.nt ?_) | ((with_reducible refine Way.mk (fun _ => ?_) (fun _ => ?_)) <;> try (exfalso; rename_i hw; first | exact Bool.noConfusion ((Go.RowKit.Hid.out hv).symm.trans hw) | exact Bool.noConfusion (hw.symm.trans (Go.RowKit.Hid.out hv)))) | (with_reducible refine Drawn.mk (by kernel_rfl) ?_) | (refine Run.mk ?_)))
      all_goals try exact Ret.mk rfl
      refine loop_by (X := Nat) (fun x => [.put 0 (.v false [.d (.slice .str) t]), .put 2 (.v false [.d (.int .i64) (m : Int)]), .put 4 (.v false [.p 4 0]), .put 7 (.v false [.d (.slice .str) (apL [h] t)]), .put 9 (.v false [.d (.slice .str) h.2.1]), .put 10 (.v false [.d (.int .i64) (x : Int)])])
        (fun _ => [.put 4 (.box 25 [.d (.slice tHk) [h]])]) (fun x => x ≤ t.length ∧ ∀ j : Nat, j < x → (j : Int) ≠ h.1 → j + h.2.1.length ≤ t.length → (t.take (j + h.2.1.length)).drop j ≠ h.2.1) (fun x => t.length - x) 0 ⟨Nat.zero_le _, fun j hj => absurd hj (Nat.not_lt_zero _)⟩ ?_ ?_
      · (refine Wk.keep ?_ ?_ <;> repeat' (first | exact True.intro | refine And.intro rfl ?_ | refine And.intro (congrArg (fun z : Int => AV.v false [Lf.d (.int .i64) z]) (by first | omega | (simp only [Int.natCast_add, List.length_cons, List.length_append, List.length_nil]; omega))) ?_ | refine And.intro ?_ ?_))
      rintro x ⟨hx, hgu⟩
      by_cases hxt : x < t.length
      · replace hgu := Lib.hid hgu
        (repeat' (first | (with_reducible refine Cend.go ?_) | (with_reducible refine Step.mk True.intro ?_) | (with_reducible refine Step.mk ?_ ?_; focus (((try simp only [true_and, and_true, and_self, kmin, kmax, decide_eq_true_eq, decide_eq_false_iff_not, castD_self, castL_self, List.length_cons, List.length_nil, List.length_append, Int.natCast_add] at *) <;> omega))) | (with_reducible refine Step.mk ?_ ?_) | (with_reducible refine Way.t1 ?_) | (with_reducible refine Way.f1 ?_) | ((with_reducible refine Way.dec (fun zz => ?_) (fun zz => ?_)) <;> (try simp only [castD_self, castL_self] at zz) <;> try (exfalso; first | omega | contradiction)) | (with_reducible refine Way.nt ?_) | ((with_reducible refine Way.mk (fun _ => ?_) (fun _ => ?_)) <;> try (exfalso; rename_i hw; first | exact Bool.noConfusion ((Go.RowKit.Hid.out hv).symm.trans hw) | exact Bool.noConfusion (hw.symm.trans (Go.RowKit.Hid.out hv)))) | (with_reducible refine Drawn.mk (by kernel_rfl) ?_) | (refine Run.mk ?_)))
        all_goals try exact Ret.mk rfl
        · have zq : (x : Int) = h.1 := zz
          (refine Back.by (x + 1) ?_ ?_ ?_; focus (refine Wk.keep ?_ ?_ <;> repeat' (first | exact True.intro | refine And.intro rfl ?_ | refine And.intro (congrArg (fun z : Int => AV.v false [Lf.d (.int .i64) z]) (by first | omega | (simp only [Int.natCast_add, List.length_cons, List.length_append, List.length_nil]; omega))) ?_ | refine And.intro ?_ ?_)))
          · refine ⟨hxt, fun j hj h1 h2 => ?_⟩
            rcases Nat.lt_or_ge j x with hjx | hjx
            · exact hgu.out j hjx h1 h2
            · exact absurd (show (j : Int) = h.1 by omega) h1
          · show t.length - (x + 1) < t.length - x; omega
        · have z3 : ¬ (List.drop ((x : Int)).toNat (List.take ((x : Int) + (h.2.1.length : Int)).toNat t) = h.2.1) := zz
          (refine Back.by (x + 1) ?_ ?_ ?_; focus (refine Wk.keep ?_ ?_ <;> repeat' (first | exact True.intro | refine And.intro rfl ?_ | refine And.intro (congrArg (fun z : Int => AV.v false [Lf.d (.int .i64) z]) (by first | omega | (simp only [Int.natCast_add, List.length_cons, List.length_append, List.length_nil]; omega))) ?_ | refine And.intro ?_ ?_)))
          · refine ⟨hxt, fun j hj h1 h2 => ?_⟩
            rcases Nat.lt_or_ge j x with hjx | hjx
            · exact hgu.out j hjx h1 h2
            · obtain rfl : j = x := by omega
              rw [Int.toNat_natCast, show ((j : Int) + (h.2.1.length : Int)).toNat = j + h.2.1.length by omega] at z3
              exact z3
          · show t.length - (x + 1) < t.length - x; omega
        · have z2 : ¬ ((x : Int) + (h.2.1.length : Int) ≤ (t.length : Int)) := zz
          (refine Back.by (x + 1) ?_ ?_ ?_; focus (refine Wk.keep ?_ ?_ <;> repeat' (first | exact True.intro | refine And.intro rfl ?_ | refine And.intro (congrArg (fun z : Int => AV.v false [Lf.d (.int .i64) z]) (by first | omega | (simp only [Int.natCast_add, List.length_cons, List.length_append, List.length_nil]; omega))) ?_ | refine And.intro ?_ ?_)))
          · refine ⟨hxt, fun j hj h1 h2 => ?_⟩
            rcases Nat.lt_or_ge j x with hjx | hjx
            · exact hgu.out j hjx h1 h2
            · omega
          · show t.length - (x + 1) < t.length - x; omega
      · obtain rfl : x = t.length := by omega
        have hu := guard_occ hgu (fun e => ho (by rw [e]; rfl))
        replace hu := Lib.hid hu
        clear hgu hx hxt
        (repeat' (first | (with_reducible refine Cend.go ?_) | (with_reducible refine Step.mk True.intro ?_) | (with_reducible refine Step.mk ?_ ?_; focus (((try simp only [true_and, and_true, and_self, kmin, kmax, decide_eq_true_eq, decide_eq_false_iff_not, castD_self, castL_self, List.length_cons, List.length_nil, List.length_append, Int.natCast_add] at *) <;> omega))) | (with_reducible refine Step.mk ?_ ?_) | (with_reducible refine Way.t1 ?_) | (with_reducible refine Way.f1 ?_) | ((with_reducible refine Way.dec (fun zz => ?_) (fun zz => ?_)) <;> (try simp only [castD_self, castL_self] at zz) <;> try (exfalso; first | omega | contradiction)) | (with_reducible refine Way.nt ?_) | ((with_reducible refine Way.mk (fun _ => ?_) (fun _ => ?_)) <;> try (exfalso; rename_i hw; first | exact Bool.noConfusion ((Go.RowKit.Hid.out hv).symm.trans hw) | exact Bool.noConfusion (hw.symm.trans (Go.RowKit.Hid.out hv)))) | (with_reducible refine Drawn.mk (by kernel_rfl) ?_) | (refine Run.mk ?_)))
        refine loop_by (X := Nat) (fun x => [.put 0 (.v false [.d (.slice .str) t]), .put 2 (.v false [.d (.int .i64) (m : Int)]), .put 4 (.v false [.p 4 0]), .put 7 (.v false [.d (.slice .str) (apL [h] t)]), .put 9 (.v false [.d (.slice .str) h.2.1]), .put 11 (.v false [.o 91]), .put 12 (.v false [.d (.int .i64) (x : Int)])])
          (fun x => [.put 4 (.box 25 [.d (.slice tHk) [h]]), .put 91 (.row 9 .str (List.replicate x ByteArray.empty))]) (fun x => x ≤ m) (fun x => m - x) 0 (Nat.zero_le _) ?_ ?_
        · refine (Wk.nilrow 11 91 9 .str rfl).trans ?_
          (refine Wk.keep ?_ ?_ <;> repeat' (first | exact True.intro | refine And.intro rfl ?_ | refine And.intro (congrArg (fun z : Int => AV.v false [Lf.d (.int .i64) z]) (by first | omega | (simp only [Int.natCast_add, List.length_cons, List.length_append, List.length_nil]; omega))) ?_ | refine And.intro ?_ ?_))
        intro x hx
        by_cases hxm : x < m
        · have hxl : (List.replicate x ByteArray.empty).length = x := List.length_replicate
          (repeat' (first | (with_reducible refine Cend.go ?_) | (with_reducible refine Step.mk True.intro ?_) | (with_reducible refine Step.mk ?_ ?_; focus (((try simp only [true_and, and_true, and_self, kmin, kmax, decide_eq_true_eq, decide_eq_false_iff_not, castD_self, castL_self, List.length_cons, List.length_nil, List.length_append, Int.natCast_add] at *) <;> omega))) | (with_reducible refine Step.mk ?_ ?_) | (with_reducible refine Way.t1 ?_) | (with_reducible refine Way.f1 ?_) | ((with_reducible refine Way.dec (fun _ => ?_) (fun _ => ?_)) <;> try (exfalso; omega)) | (with_reducible refine Way.nt ?_) | (with_reducible refine Way.mk (fun _ => ?_) (fun _ => ?_)) | (with_reducible refine Drawn.mk (by kernel_rfl) ?_) | (refine Run.mk ?_)))
          refine Back.by (x + 1) ?_ ?_ ?_
          · rw [List.replicate_succ']
            (refine Wk.ren [(91, 109)] rfl ?_ ?_ <;> repeat' (first | exact True.intro | refine And.intro rfl ?_ | refine And.intro (congrArg (fun z : Int => AV.v false [Lf.d (.int .i64) z]) (by first | omega | (simp only [Int.natCast_add, List.length_cons, List.length_append, List.length_nil]; omega))) ?_ | refine And.intro ?_ ?_))
          · exact hxm
          · show m - (x + 1) < m - x; omega
        · obtain rfl : x = m := by omega
          (repeat' (first | (with_reducible refine Cend.go ?_) | (with_reducible refine Step.mk True.intro ?_) | (with_reducible refine Step.mk ?_ ?_; focus (((try simp only [true_and, and_true, and_self, kmin, kmax, decide_eq_true_eq, decide_eq_false_iff_not, castD_self, castL_self, List.length_cons, List.length_nil, List.length_append, Int.natCast_add] at *) <;> omega))) | (with_reducible refine Step.mk ?_ ?_) | (with_reducible refine Way.t1 ?_) | (with_reducible refine Way.f1 ?_) | ((with_reducible refine Way.dec (fun _ => ?_) (fun _ => ?_)) <;> try (exfalso; omega)) | (with_reducible refine Way.nt ?_) | (with_reducible refine Way.mk (fun _ => ?_) (fun _ => ?_)) | (with_reducible refine Drawn.mk (by kernel_rfl) ?_) | (refine Run.mk ?_)))
          refine loop_by (X := Nat) (fun y => [.put 0 (.v false [.d (.slice .str) t]), .put 2 (.v false [.d (.int .i64) (x : Int)]), .put 4 (.v false [.p 4 0]), .put 7 (.v false [.d (.slice .str) (apL [h] t)]), .put 9 (.v false [.d (.slice .str) h.2.1]), .put 11 (.v false [.o 91]), .put 13 (.v false [.d (.int .i64) (y : Int)])])
            (fun y => [.put 4 (.box 25 [.d (.slice tHk) [h]]), .put 91 (.row 9 .str (List.replicate x ByteArray.empty))]) (fun y => y ≤ h.2.1.length ∧ ∀ s ∈ h.2.1.take y, s ≠ ByteArray.empty) (fun y => h.2.1.length - y) 0 ⟨Nat.zero_le _, fun s hs => by simp at hs⟩ ?_ ?_
          · (refine Wk.keep ?_ ?_ <;> repeat' (first | exact True.intro | refine And.intro rfl ?_ | refine And.intro (congrArg (fun z : Int => AV.v false [Lf.d (.int .i64) z]) (by first | omega | (simp only [Int.natCast_add, List.length_cons, List.length_append, List.length_nil]; omega))) ?_ | refine And.intro ?_ ?_))
          rintro y ⟨hy, hne⟩
          by_cases hyo : y < h.2.1.length
          · replace hne := Lib.hid hne
            (repeat' (first | (with_reducible refine Cend.go ?_) | (with_reducible refine Step.mk True.intro ?_) | (with_reducible refine Step.mk ?_ ?_; focus (((try simp only [true_and, and_true, and_self, kmin, kmax, decide_eq_true_eq, decide_eq_false_iff_not, castD_self, castL_self, List.length_cons, List.length_nil, List.length_append, Int.natCast_add] at *) <;> omega))) | (with_reducible refine Step.mk ?_ ?_) | (with_reducible refine Way.t1 ?_) | (with_reducible refine Way.f1 ?_) | ((with_reducible refine Way.dec (fun _ => ?_) (fun _ => ?_)) <;> try (exfalso; omega)) | (with_reducible refine Way.nt ?_) | (with_reducible refine Way.mk (fun _ => ?_) (fun _ => ?_)) | (with_reducible refine Drawn.mk (by kernel_rfl) ?_) | (refine Run.mk ?_)))
            all_goals try exact Ret.mk rfl
            rename_i zq
            have zq : ¬ h.2.1.getD ((y : Int)).toNat Ty.str.dflt = ByteArray.empty := zq
            rw [getD_at Ty.str.dflt hyo] at zq
            (refine Back.by (y + 1) ?_ ?_ ?_; focus (refine Wk.keep ?_ ?_ <;> repeat' (first | exact True.intro | refine And.intro rfl ?_ | refine And.intro (congrArg (fun z : Int => AV.v false [Lf.d (.int .i64) z]) (by first | omega | (simp only [Int.natCast_add, List.length_cons, List.length_append, List.length_nil]; omega))) ?_ | refine And.intro ?_ ?_)))
            · refine ⟨hyo, fun s hs => ?_⟩
              rw [List.take_add_one, List.getElem?_eq_getElem hyo] at hs
              rcases List.mem_append.1 hs with hs | hs
              · exact hne.out s hs
              · rw [show s = _ from List.mem_singleton.1 hs]
                exact zq
            · show h.2.1.length - (y + 1) < h.2.1.length - y; omega
          · rw [List.take_of_length_le (by omega)] at hne
            obtain ⟨l1, l2, l3⟩ := shift_law (n := x) ha (by omega) (by omega) (by omega) (fun e => ho (by rw [e]; rfl)) hne hu.out
            have l0 : (fuC (List.replicate x ByteArray.empty ++ t) [h] 20).1 = 0 := by rw [l1]
            replace hne := Lib.hid hne
            replace l0 := Lib.hid l0
            replace l2 := Lib.hid l2
            replace l3 := Lib.hid l3
            clear l1
            (repeat' (first | (with_reducible refine Cend.go ?_) | (with_reducible refine Step.mk True.intro ?_) | (with_reducible refine Step.mk ?_ ?_; focus (((try simp only [true_and, and_true, and_self, kmin, kmax, decide_eq_true_eq, decide_eq_false_iff_not, castD_self, castL_self, List.length_cons, List.length_nil, List.length_append, Int.natCast_add] at *) <;> omega))) | (with_reducible refine Step.mk ?_ ?_) | (with_reducible refine Way.t1 ?_) | (with_reducible refine Way.f1 ?_) | ((with_reducible refine Way.dec (fun _ => ?_) (fun _ => ?_)) <;> try (exfalso; omega)) | (with_reducible refine Way.nt ?_) | (with_reducible refine Way.mk (fun _ => ?_) (fun _ => ?_)) | (with_reducible refine Drawn.mk (by kernel_rfl) ?_) | (refine Run.mk ?_)))
            · show (0 + (List.replicate x ByteArray.empty).length) * 16 ≤ 140737488355328 ∧ 0 + (List.replicate x ByteArray.empty).length ≤ 1000000000000
              rw [List.length_replicate]; omega
            · show (([] ++ List.replicate x ByteArray.empty).length + t.length) * 16 ≤ 140737488355328 ∧ ([] ++ List.replicate x ByteArray.empty).length + t.length ≤ 1000000000000
              rw [List.nil_append, List.length_replicate]; omega
            · show ((List.replicate x ByteArray.empty).length + (apL [h] t).length) * 16 ≤ 140737488355328 ∧ (List.replicate x ByteArray.empty).length + (apL [h] t).length ≤ 1000000000000
              rw [List.length_replicate]; omega
            · exact Ret.mk rfl
            · rename_i zq
              exact absurd l3.out zq
            · rename_i zq
              exact absurd l2.out zq
            · rename_i zq
              exact absurd l0.out zq
    · have hv := Lib.hid ha
      (refine fnM_of rfl rfl rfl rfl ?_; dsimp only [params, argAV, Ty.leaves, Ty.isSt])
      (repeat' (first | (with_reducible refine Cend.go ?_) | (with_reducible refine Step.mk True.intro ?_) | (with_reducible refine Step.mk ?_ ?_; focus (((try simp only [true_and, and_true, and_self, kmin, kmax, decide_eq_true_eq, decide_eq_false_iff_not, castD_self, castL_self, List.length_cons, List.length_nil, List.length_append, Int.natCast_add] at *) <;> omega))) | (with_reducible refine Step.mk ?_ ?_) | (with_reducible refine Way.t1 ?_) | (with_reducible refine Way.f1 ?_) | ((with_reducible refine Way.dec (fun zz => ?_) (fun zz => ?_)) <;> (try simp only [castD_self, castL_self] at zz) <;> try (exfalso; first | omega | contradiction)) | (with_reducible refine Way.nt ?_) | ((with_reducible refine Way.mk (fun _ => ?_) (fun _ => ?_)) <;> try (exfalso; rename_i hw; first | exact Bool.noConfusion ((Go.RowKit.Hid.out hv).symm.trans hw) | exact Bool.noConfusion (hw.symm.trans (Go.RowKit.Hid.out hv)))) | (with_reducible refine Drawn.mk (by kernel_rfl) ?_) | (refine Run.mk ?_)))
      all_goals first
        | exact Ret.mk rfl
        | skip
  · (refine fnM_of rfl rfl rfl rfl ?_; dsimp only [params, argAV, Ty.leaves, Ty.isSt])
    (repeat' (first | (with_reducible refine Cend.go ?_) | (with_reducible refine Step.mk True.intro ?_) | (with_reducible refine Step.mk ?_ ?_; focus (((try simp only [true_and, and_true, and_self, kmin, kmax, decide_eq_true_eq, decide_eq_false_iff_not, castD_self, castL_self, List.length_cons, List.length_nil, List.length_append, Int.natCast_add] at *) <;> omega))) | (with_reducible refine Step.mk ?_ ?_) | (with_reducible refine Way.t1 ?_) | (with_reducible refine Way.f1 ?_) | ((with_reducible refine Way.dec (fun _ => ?_) (fun _ => ?_)) <;> try (exfalso; omega)) | (with_reducible refine Way.nt ?_) | (with_reducible refine Way.mk (fun _ => ?_) (fun _ => ?_)) | (with_reducible refine Drawn.mk (by kernel_rfl) ?_) | (refine Run.mk ?_)))
    all_goals try exact Ret.mk rfl
end Go.Proofs.YtppmhjaooiameaaDoor
