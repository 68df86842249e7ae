/- The walks of translog: split, pair, digests, root, Root, consistency. -/
import Derived.Test.YtgdlbpihkodeoaaDigPr
import Derived.Test.YtgdlbpihkodeoaaTlPure
import Derived.Test.YtgdlbpihkodeoaaEqF
import Derived.Test.YtgdlbpihkodeoaaWkMore
namespace Go.Proofs.Ytgdlbpihkodeoaa
open Go.RowKit
set_option maxRecDepth 10000
set_option linter.unusedSimpArgs false

def sp_split : SpecF := pureSp true [.int .i64] (fun (n', _) => 2 ≤ n' ∧ n' ≤ 1000000) (fun (n', _) => .v false [.d (.int .i64) ((spl n'.toNat : Nat) : Int)])
theorem split_sp : SpFact 48 sp_split := by
  refine ⟨⟨Try.f48, rfl, rfl, rfl, pureSp_ok (env_fine (sp := []) (eq := []) True.intro True.intro) rfl (fun ⟨_, _⟩ _ => rfl) ?_⟩, pureSp_loc _ _ _ _⟩
  rintro ⟨n, u⟩ - ⟨h1, h2⟩
  change Int at n
  have h1 : 2 ≤ n := h1
  have h2 : n ≤ 1000000 := h2
  (refine fnM_of rfl rfl rfl rfl ?_; dsimp only [params, argAV, Ty.leaves, Ty.isSt])
  (repeat' (first | (with_reducible refine Step.mk True.intro ?_) | (with_reducible refine Step.mk ?_ ?_; focus (((try simp only [true_and, and_true, and_self, kmin, kmax, decide_eq_true_eq, decide_eq_false_iff_not, castD_self, castL_self, List.length_cons, List.length_nil, List.length_append, Int.natCast_add] at *) <;> omega))) | (with_reducible refine Step.mk ?_ ?_) | (with_reducible refine Way.t1 ?_) | (with_reducible refine Way.f1 ?_) | ((with_reducible refine Way.dec (fun _ => ?_) (fun _ => ?_)) <;> try (exfalso; omega)) | (with_reducible refine Way.nt ?_) | (with_reducible refine Way.mk (fun _ => ?_) (fun _ => ?_)) | (with_reducible refine Drawn.mk (by kernel_rfl) ?_) | (refine Run.mk ?_)))
  refine loop_by (X := Nat) (fun k => [.put 0 (.v false [.d (.int .i64) n]), .put 3 (.v false [.d (.int .i64) (k : Int)])]) (fun _ => [])
    (fun k => (∃ j, k = 2 ^ j) ∧ 0 < k ∧ (k : Int) < n) (fun k => n.toNat - k) 1 ⟨⟨0, rfl⟩, by decide, by omega⟩ ?_ ?_
  · (refine Wk.keep ?_ ?_ <;> repeat' (first | exact True.intro | refine And.intro rfl ?_ | refine And.intro (congrArg (fun z : Int => AV.v false [Lf.d (.int .i64) z]) (by first | omega | (simp only [Int.natCast_add, List.length_cons, List.length_append, List.length_nil]; omega))) ?_ | refine And.intro ?_ ?_))
  rintro k ⟨h3, h4, h5⟩
  dsimp only at h3 h4 h5 ⊢
  replace h3 := Lib.hid h3
  (repeat' (first | (with_reducible refine Step.mk True.intro ?_) | (with_reducible refine Step.mk ?_ ?_; focus (((try simp only [true_and, and_true, and_self, kmin, kmax, decide_eq_true_eq, decide_eq_false_iff_not, castD_self, castL_self, List.length_cons, List.length_nil, List.length_append, Int.natCast_add] at *) <;> omega))) | (with_reducible refine Step.mk ?_ ?_) | (with_reducible refine Way.t1 ?_) | (with_reducible refine Way.f1 ?_) | ((with_reducible refine Way.dec (fun _ => ?_) (fun _ => ?_)) <;> try (exfalso; omega)) | (with_reducible refine Way.nt ?_) | (with_reducible refine Way.mk (fun _ => ?_) (fun _ => ?_)) | (with_reducible refine Drawn.mk (by kernel_rfl) ?_) | (refine Run.mk ?_)))
  · (refine Back.by (2 * k) ?_ ?_ ?_; focus (refine Wk.keep ?_ ?_ <;> repeat' (first | exact True.intro | refine And.intro rfl ?_ | refine And.intro (congrArg (fun z : Int => AV.v false [Lf.d (.int .i64) z]) (by first | omega | (simp only [Int.natCast_add, List.length_cons, List.length_append, List.length_nil]; omega))) ?_ | refine And.intro ?_ ?_)))
    · obtain ⟨j, hj⟩ := h3.out
      exact ⟨⟨j + 1, by rw [hj, Nat.pow_succ, Nat.mul_comm]⟩, by omega, by push_cast; omega⟩
    · show n.toNat - 2 * k < n.toNat - k; omega
  · have e : spl n.toNat = k := spl_eq ⟨h3.out, by omega, by omega⟩
    refine Ret.mk ?_
    dsimp only
    rw [e]
    rfl
def sp_tpair : SpecF := pureSp true [.int .i64, .int .i64] (fun (a', b', _) => (0 ≤ a' ∧ a' < 2305843009213693951) ∧ (0 ≤ b' ∧ b' < 2305843009213693951)) (fun (a', b', _) => .v false [.d (.int .i64) (pr a' b')])
theorem tpair_sp : SpFact 49 sp_tpair := by
  refine ⟨⟨Try.f49, rfl, rfl, rfl, pureSp_ok (env_fine (sp := [(27, sp_DPair)]) (eq := []) ⟨DPair_sp, True.intro⟩ True.intro) rfl (fun ⟨_, _, _⟩ _ => rfl) ?_⟩, pureSp_loc _ _ _ _⟩
  rintro ⟨a, b, u⟩ - ⟨h1, h2⟩
  change Int at a b
  have h1 : 0 ≤ a ∧ a < 2305843009213693951 := h1
  have h2 : 0 ≤ b ∧ b < 2305843009213693951 := h2
  (refine fnM_of rfl rfl rfl rfl ?_; dsimp only [params, argAV, Ty.leaves, Ty.isSt])
  (repeat' (first | (with_reducible refine Step.mk True.intro ?_) | (with_reducible refine Step.mk ?_ ?_; focus (((try simp only [true_and, and_true, and_self, kmin, kmax, decide_eq_true_eq, decide_eq_false_iff_not, castD_self, castL_self, List.length_cons, List.length_nil, List.length_append, Int.natCast_add] at *) <;> omega))) | (with_reducible refine Step.mk ?_ ?_) | (with_reducible refine Way.t1 ?_) | (with_reducible refine Way.f1 ?_) | ((with_reducible refine Way.dec (fun _ => ?_) (fun _ => ?_)) <;> try (exfalso; omega)) | (with_reducible refine Way.nt ?_) | (with_reducible refine Way.mk (fun _ => ?_) (fun _ => ?_)) | (with_reducible refine Drawn.mk (by kernel_rfl) ?_) | (refine Run.mk ?_)))
  all_goals first | exact Ret.mk rfl | exact ⟨h1, h2⟩ | skip
def sp_root (N : Nat) : SpecF := pureSp true [.slice (.int .i64)] (fun (l', _) => l'.length ≤ N ∧ N ≤ 1000 ∧ DigL l') (fun (l', _) => .v false [.d (.int .i64) (rootV l')])
theorem root_sp : ∀ N, SpFact 24 (sp_root N) := by
  intro N
  induction N with
  | zero =>
    refine ⟨⟨Try.f24, rfl, rfl, rfl, pureSp_ok (env_fine (sp := []) (eq := []) True.intro True.intro) rfl (fun ⟨_, _⟩ _ => rfl) ?_⟩, pureSp_loc _ _ _ _⟩
    rintro ⟨l, u⟩ - ⟨h1, h2, h3⟩
    change List Int at l
    have h1 : l.length ≤ 0 := h1
    have e : rootV l = 0 := rootV_zero (by omega)
    dsimp only
    rw [e]
    replace h3 := Lib.hid h3
    (refine fnM_of rfl rfl rfl rfl ?_; dsimp only [params, argAV, Ty.leaves, Ty.isSt])
    (repeat' (first | (with_reducible refine Step.mk True.intro ?_) | (with_reducible refine Step.mk ?_ ?_; focus (((try simp only [true_and, and_true, and_self, kmin, kmax, decide_eq_true_eq, decide_eq_false_iff_not, castD_self, castL_self, List.length_cons, List.length_nil, List.length_append, Int.natCast_add] at *) <;> omega))) | (with_reducible refine Step.mk ?_ ?_) | (with_reducible refine Way.t1 ?_) | (with_reducible refine Way.f1 ?_) | ((with_reducible refine Way.dec (fun _ => ?_) (fun _ => ?_)) <;> try (exfalso; omega)) | (with_reducible refine Way.nt ?_) | (with_reducible refine Way.mk (fun _ => ?_) (fun _ => ?_)) | (with_reducible refine Drawn.mk (by kernel_rfl) ?_) | (refine Run.mk ?_)))
    all_goals first | exact Ret.mk rfl | skip
  | succ N ih =>
    refine ⟨⟨Try.f24, rfl, rfl, rfl, pureSp_ok (env_fine (sp := [(24, sp_root N), (48, sp_split), (49, sp_tpair)]) (eq := []) ⟨ih, split_sp, tpair_sp, True.intro⟩ True.intro) rfl (fun ⟨_, _⟩ _ => rfl) ?_⟩, pureSp_loc _ _ _ _⟩
    rintro ⟨l, u⟩ - ⟨h1, h2, h3⟩
    change List Int at l
    have h1 : l.length ≤ N + 1 := h1
    have h2 : N + 1 ≤ 1000 := h2
    have h3 : DigL l := h3
    by_cases h0 : l.length < 2
    · have e : rootV l = if l.length = 0 then 0 else l.getD 0 0 := by
        by_cases q : l.length = 0
        · rw [if_pos q, rootV_zero q]
        · rw [if_neg q, rootV_one (by omega)]
      replace h3 := Lib.hid h3
      (refine fnM_of rfl rfl rfl rfl ?_; dsimp only [params, argAV, Ty.leaves, Ty.isSt])
      (repeat' (first | (with_reducible refine Step.mk True.intro ?_) | (with_reducible refine Step.mk ?_ ?_; focus (((try simp only [true_and, and_true, and_self, kmin, kmax, decide_eq_true_eq, decide_eq_false_iff_not, castD_self, castL_self, List.length_cons, List.length_nil, List.length_append, Int.natCast_add] at *) <;> omega))) | (with_reducible refine Step.mk ?_ ?_) | (with_reducible refine Way.t1 ?_) | (with_reducible refine Way.f1 ?_) | ((with_reducible refine Way.dec (fun _ => ?_) (fun _ => ?_)) <;> try (exfalso; omega)) | (with_reducible refine Way.nt ?_) | (with_reducible refine Way.mk (fun _ => ?_) (fun _ => ?_)) | (with_reducible refine Drawn.mk (by kernel_rfl) ?_) | (refine Run.mk ?_)))
      · refine Ret.mk ?_
        rw [e, if_pos (by omega)]
        rfl
      · refine Ret.mk ?_
        rw [e, if_neg (by omega)]
        rfl
    · obtain ⟨s1, s2⟩ := spl_lt (n := l.length) (by omega)
      have e := rootV_two (l := l) (by omega)
      obtain ⟨S, hS⟩ : ∃ S, spl (((l.length : Nat) : Int)).toNat = S := ⟨_, rfl⟩
      have hS' : spl l.length = S := by rw [← hS, Int.toNat_natCast]
      rw [hS'] at s1 s2 e
      clear hS'
      have n2 : 2 ≤ l.length := by omega
      have d1 : DigL (List.drop (Int.toNat 0) (List.take ((S : Nat) : Int).toNat l)) := (h3.take _).drop _
      have d2 : DigL (List.drop ((S : Nat) : Int).toNat (List.take (((l.length : Nat) : Int)).toNat l)) := (h3.take _).drop _
      have e1 : List.drop (Int.toNat 0) (List.take ((S : Nat) : Int).toNat l) = l.take S := by simp
      have e2 : List.drop ((S : Nat) : Int).toNat (List.take (((l.length : Nat) : Int)).toNat l) = l.drop S := by simp
      have b1 := rootV_bd d1
      have b2 := rootV_bd d2
      replace h3 := Lib.hid h3
      replace d1 := Lib.hid d1
      replace d2 := Lib.hid d2
      replace e1 := Lib.hid e1
      replace e2 := Lib.hid e2
      replace e := Lib.hid e
      replace b1 := Lib.hid b1
      replace b2 := Lib.hid b2
      (refine fnM_of rfl rfl rfl rfl ?_; dsimp only [params, argAV, Ty.leaves, Ty.isSt])
      (repeat' (first | (with_reducible refine Step.mk True.intro ?_) | (with_reducible refine Step.mk ?_ ?_; focus (((try simp only [true_and, and_true, and_self, kmin, kmax, decide_eq_true_eq, decide_eq_false_iff_not, castD_self, castL_self, List.length_cons, List.length_nil, List.length_append, Int.natCast_add] at *) <;> omega))) | (with_reducible refine Step.mk ?_ ?_) | (with_reducible refine Way.t1 ?_) | (with_reducible refine Way.f1 ?_) | ((with_reducible refine Way.dec (fun _ => ?_) (fun _ => ?_)) <;> try (exfalso; omega)) | (with_reducible refine Way.nt ?_) | (with_reducible refine Way.mk (fun _ => ?_) (fun _ => ?_)) | (with_reducible refine Drawn.mk (by kernel_rfl) ?_) | (refine Run.mk ?_)))
      · exact ⟨show (2 : Int) ≤ ((l.length : Nat) : Int) by omega, show ((l.length : Nat) : Int) ≤ 1000000 by omega⟩
      · rw [hS]
        refine ⟨?_, by omega, d1.out⟩
        have := congrArg List.length e1.out
        show (List.drop (Int.toNat 0) (List.take ((S : Nat) : Int).toNat l)).length ≤ N
        rw [this, List.length_take]; omega
      · rw [hS]
        refine ⟨?_, by omega, d2.out⟩
        have := congrArg List.length e2.out
        show (List.drop ((S : Nat) : Int).toNat (List.take (((l.length : Nat) : Int)).toNat l)).length ≤ N
        rw [this, List.length_drop]; omega
      · rw [hS]
        exact ⟨b1.out, b2.out⟩
      · refine Ret.mk ?_
        rw [hS, e.out, ← e1.out, ← e2.out]
        rfl
def sp_root' : SpecF := sp_root 64
theorem root_sp' : SpFact 24 sp_root' := root_sp 64

def sp_IsD : SpecF := pureSp true [.int .i64] (fun _ => True) (fun (a', _) => .v false [.d .bool (isD a')])
theorem IsD_sp : SpFact 29 sp_IsD := by
  refine ⟨⟨Try.f29, rfl, rfl, rfl, pureSp_ok (env_fine (sp := []) (eq := []) True.intro True.intro) rfl (fun ⟨_, _⟩ _ => rfl) ?_⟩, pureSp_loc _ _ _ _⟩
  rintro ⟨a, u⟩ - -
  change Int at a
  by_cases h : 0 ≤ a
  · by_cases g : a < 2305843009213693951
    · have e : isD a = true := (isD_iff a).2 ⟨h, g⟩
      dsimp only
      rw [e]
      (refine fnM_of rfl rfl rfl rfl ?_; dsimp only [params, argAV, Ty.leaves, Ty.isSt])
      (repeat' (first | (with_reducible refine Step.mk True.intro ?_) | (with_reducible refine Step.mk ?_ ?_; focus (((try simp only [true_and, and_true, and_self, kmin, kmax, decide_eq_true_eq, decide_eq_false_iff_not, castD_self, castL_self, List.length_cons, List.length_nil, List.length_append, Int.natCast_add] at *) <;> omega))) | (with_reducible refine Step.mk ?_ ?_) | (with_reducible refine Way.t1 ?_) | (with_reducible refine Way.f1 ?_) | ((with_reducible refine Way.dec (fun _ => ?_) (fun _ => ?_)) <;> try (exfalso; omega)) | (with_reducible refine Way.nt ?_) | (with_reducible refine Way.mk (fun _ => ?_) (fun _ => ?_)) | (with_reducible refine Drawn.mk (by kernel_rfl) ?_) | (refine Run.mk ?_)))
      all_goals (refine Ret.mk ?_; first | (show AV.v false [.d .bool (decide (a < 2305843009213693951))] = _; rw [decide_eq_true g]) | skip)
    · have e : isD a = false := by unfold isD; rw [decide_eq_false g, Bool.and_false]
      dsimp only
      rw [e]
      (refine fnM_of rfl rfl rfl rfl ?_; dsimp only [params, argAV, Ty.leaves, Ty.isSt])
      (repeat' (first | (with_reducible refine Step.mk True.intro ?_) | (with_reducible refine Step.mk ?_ ?_; focus (((try simp only [true_and, and_true, and_self, kmin, kmax, decide_eq_true_eq, decide_eq_false_iff_not, castD_self, castL_self, List.length_cons, List.length_nil, List.length_append, Int.natCast_add] at *) <;> omega))) | (with_reducible refine Step.mk ?_ ?_) | (with_reducible refine Way.t1 ?_) | (with_reducible refine Way.f1 ?_) | ((with_reducible refine Way.dec (fun _ => ?_) (fun _ => ?_)) <;> try (exfalso; omega)) | (with_reducible refine Way.nt ?_) | (with_reducible refine Way.mk (fun _ => ?_) (fun _ => ?_)) | (with_reducible refine Drawn.mk (by kernel_rfl) ?_) | (refine Run.mk ?_)))
      all_goals (refine Ret.mk ?_; first | (show AV.v false [.d .bool (decide (a < 2305843009213693951))] = _; rw [decide_eq_false g]) | skip)
  · have e : isD a = false := by unfold isD; rw [decide_eq_false h, Bool.false_and]
    dsimp only
    rw [e]
    (refine fnM_of rfl rfl rfl rfl ?_; dsimp only [params, argAV, Ty.leaves, Ty.isSt])
    (repeat' (first | (with_reducible refine Step.mk True.intro ?_) | (with_reducible refine Step.mk ?_ ?_; focus (((try simp only [true_and, and_true, and_self, kmin, kmax, decide_eq_true_eq, decide_eq_false_iff_not, castD_self, castL_self, List.length_cons, List.length_nil, List.length_append, Int.natCast_add] at *) <;> omega))) | (with_reducible refine Step.mk ?_ ?_) | (with_reducible refine Way.t1 ?_) | (with_reducible refine Way.f1 ?_) | ((with_reducible refine Way.dec (fun _ => ?_) (fun _ => ?_)) <;> try (exfalso; omega)) | (with_reducible refine Way.nt ?_) | (with_reducible refine Way.mk (fun _ => ?_) (fun _ => ?_)) | (with_reducible refine Drawn.mk (by kernel_rfl) ?_) | (refine Run.mk ?_)))
    all_goals first | exact Ret.mk rfl | skip
/-- (asked only where all are digests) -/
def sp_digests : SpecF := pureSp true [.int .i64, .slice (.int .i64)] (fun (i', l', _) => 0 ≤ i' ∧ i' ≤ 1000 ∧ l'.length ≤ 1000 ∧ DigL l') (fun _ => .v true [.d (.int .i64) 0, .d (.int .i64) 0])
theorem digests_sp : SpFact 47 sp_digests := by
  refine ⟨⟨Try.f47, rfl, rfl, rfl, pureSp_ok (env_fine (sp := [(29, sp_IsD)]) (eq := []) ⟨IsD_sp, True.intro⟩ True.intro) rfl (fun ⟨_, _, _⟩ _ => rfl) ?_⟩, pureSp_loc _ _ _ _⟩
  rintro ⟨i, l, u⟩ - ⟨h1, h2, h3, h4⟩
  change Int at i
  change List Int at l
  have h1 : 0 ≤ i := h1
  have h2 : i ≤ 1000 := h2
  have h3 : l.length ≤ 1000 := h3
  have h4 : DigL l := h4
  replace h4 := Lib.hid h4
  (refine fnM_of rfl rfl rfl rfl ?_; dsimp only [params, argAV, Ty.leaves, Ty.isSt])
  (repeat' (first | (with_reducible refine Step.mk True.intro ?_) | (with_reducible refine Step.mk ?_ ?_; focus (((try simp only [true_and, and_true, and_self, kmin, kmax, decide_eq_true_eq, decide_eq_false_iff_not, castD_self, castL_self, List.length_cons, List.length_nil, List.length_append, Int.natCast_add] at *) <;> omega))) | (with_reducible refine Step.mk ?_ ?_) | (with_reducible refine Way.t1 ?_) | (with_reducible refine Way.f1 ?_) | ((with_reducible refine Way.dec (fun _ => ?_) (fun _ => ?_)) <;> try (exfalso; omega)) | (with_reducible refine Way.nt ?_) | (with_reducible refine Way.mk (fun _ => ?_) (fun _ => ?_)) | (with_reducible refine Drawn.mk (by kernel_rfl) ?_) | (refine Run.mk ?_)))
  refine loop_by (X := Nat) (fun k => [.put 0 (.v false [.d (.int .i64) i]), .put 4 (.v false [.p 4 0]), .put 7 (.v false [.d (.slice (.int .i64)) l]), .put 8 (.v false [.d (.int .i64) (l.length : Int)]), .put 9 (.v false [.d (.int .i64) (k : Int)])]) (fun _ => [.put 4 (.box 24 [.d (.int .i64) 0, .d (.int .i64) 0])])
    (fun k => k ≤ l.length) (fun k => l.length - k) 0 (Nat.zero_le _) ?_ ?_
  · (refine Wk.keep ?_ ?_ <;> repeat' (first | exact True.intro | refine And.intro rfl ?_ | refine And.intro (congrArg (fun z : Int => AV.v false [Lf.d (.int .i64) z]) (by first | omega | (simp only [Int.natCast_add, List.length_cons, List.length_append, List.length_nil]; omega))) ?_ | refine And.intro ?_ ?_))
  intro k hk
  (try dsimp only)
  by_cases hlt : k < l.length
  · have hb : isD (l.getD ((k : Int)).toNat (Ty.int .i64).dflt) = true := by
      rw [Int.toNat_natCast, List.getD_eq_getElem?_getD, List.getElem?_eq_getElem hlt]
      exact (isD_iff _).2 (h4.out _ (List.getElem_mem hlt))
    replace hb := Lib.hid hb
    (repeat' (first | (with_reducible refine Step.mk True.intro ?_) | (with_reducible refine Step.mk ?_ ?_; focus (((try simp only [true_and, and_true, and_self, kmin, kmax, decide_eq_true_eq, decide_eq_false_iff_not, castD_self, castL_self, List.length_cons, List.length_nil, List.length_append, Int.natCast_add] at *) <;> omega))) | (with_reducible refine Step.mk ?_ ?_) | (with_reducible refine Way.t1 ?_) | (with_reducible refine Way.f1 ?_) | ((with_reducible refine Way.dec (fun _ => ?_) (fun _ => ?_)) <;> try (exfalso; omega)) | (with_reducible refine Way.nt ?_) | ((with_reducible refine Way.mk (fun _ => ?_) (fun _ => ?_)) <;> try (exfalso; rename_i hw; first | exact Bool.noConfusion ((Go.RowKit.Hid.out hb).symm.trans hw) | exact Bool.noConfusion (hw.symm.trans (Go.RowKit.Hid.out hb)))) | (with_reducible refine Drawn.mk (by kernel_rfl) ?_) | (refine Run.mk ?_)))
    (refine Back.by (k + 1) ?_ ?_ ?_; focus (refine Wk.keep ?_ ?_ <;> repeat' (first | exact True.intro | refine And.intro rfl ?_ | refine And.intro (congrArg (fun z : Int => AV.v false [Lf.d (.int .i64) z]) (by first | omega | (simp only [Int.natCast_add, List.length_cons, List.length_append, List.length_nil]; omega))) ?_ | refine And.intro ?_ ?_)))
    · exact hlt
    · show l.length - (k + 1) < l.length - k; omega
  · (repeat' (first | (with_reducible refine Step.mk True.intro ?_) | (with_reducible refine Step.mk ?_ ?_; focus (((try simp only [true_and, and_true, and_self, kmin, kmax, decide_eq_true_eq, decide_eq_false_iff_not, castD_self, castL_self, List.length_cons, List.length_nil, List.length_append, Int.natCast_add] at *) <;> omega))) | (with_reducible refine Step.mk ?_ ?_) | (with_reducible refine Way.t1 ?_) | (with_reducible refine Way.f1 ?_) | ((with_reducible refine Way.dec (fun _ => ?_) (fun _ => ?_)) <;> try (exfalso; omega)) | (with_reducible refine Way.nt ?_) | (with_reducible refine Way.mk (fun _ => ?_) (fun _ => ?_)) | (with_reducible refine Drawn.mk (by kernel_rfl) ?_) | (refine Run.mk ?_)))
    all_goals first | exact Ret.mk rfl | skip
def sp_tcheck : SpecF := pureSp true [.slice (.int .i64)] (fun (l', _) => l'.length ≤ 64 ∧ DigL l') (fun _ => .v true [.d (.int .i64) 0, .d (.int .i64) 0])
theorem tcheck_sp : SpFact 23 sp_tcheck := by
  refine ⟨⟨Try.f23, rfl, rfl, rfl, pureSp_ok (env_fine (sp := [(47, sp_digests)]) (eq := []) ⟨digests_sp, True.intro⟩ True.intro) rfl (fun ⟨_, _⟩ _ => rfl) ?_⟩, pureSp_loc _ _ _ _⟩
  rintro ⟨l, u⟩ - ⟨h1, h2⟩
  change List Int at l
  have h1 : l.length ≤ 64 := h1
  have h3 : l.length ≤ 1000 := by omega
  (refine fnM_of rfl rfl rfl rfl ?_; dsimp only [params, argAV, Ty.leaves, Ty.isSt])
  (repeat' (first | (with_reducible refine Step.mk True.intro ?_) | (with_reducible refine Step.mk ?_ ?_; focus (((try simp only [true_and, and_true, and_self, kmin, kmax, decide_eq_true_eq, decide_eq_false_iff_not, castD_self, castL_self, List.length_cons, List.length_nil, List.length_append, Int.natCast_add] at *) <;> omega))) | (with_reducible refine Step.mk ?_ ?_) | (with_reducible refine Way.t1 ?_) | (with_reducible refine Way.f1 ?_) | ((with_reducible refine Way.dec (fun _ => ?_) (fun _ => ?_)) <;> try (exfalso; omega)) | (with_reducible refine Way.nt ?_) | (with_reducible refine Way.mk (fun _ => ?_) (fun _ => ?_)) | (with_reducible refine Drawn.mk (by kernel_rfl) ?_) | (refine Run.mk ?_)))
  all_goals first | exact Ret.mk rfl | exact ⟨by decide, by decide, h3, h2⟩ | skip
theorem tcheckP_sp : SpFact 30 sp_tcheck := by
  refine ⟨⟨Try.f30, rfl, rfl, rfl, pureSp_ok (env_fine (sp := [(47, sp_digests)]) (eq := []) ⟨digests_sp, True.intro⟩ True.intro) rfl (fun ⟨_, _⟩ _ => rfl) ?_⟩, pureSp_loc _ _ _ _⟩
  rintro ⟨l, u⟩ - ⟨h1, h2⟩
  change List Int at l
  have h1 : l.length ≤ 64 := h1
  have h3 : l.length ≤ 1000 := by omega
  (refine fnM_of rfl rfl rfl rfl ?_; dsimp only [params, argAV, Ty.leaves, Ty.isSt])
  (repeat' (first | (with_reducible refine Step.mk True.intro ?_) | (with_reducible refine Step.mk ?_ ?_; focus (((try simp only [true_and, and_true, and_self, kmin, kmax, decide_eq_true_eq, decide_eq_false_iff_not, castD_self, castL_self, List.length_cons, List.length_nil, List.length_append, Int.natCast_add] at *) <;> omega))) | (with_reducible refine Step.mk ?_ ?_) | (with_reducible refine Way.t1 ?_) | (with_reducible refine Way.f1 ?_) | ((with_reducible refine Way.dec (fun _ => ?_) (fun _ => ?_)) <;> try (exfalso; omega)) | (with_reducible refine Way.nt ?_) | (with_reducible refine Way.mk (fun _ => ?_) (fun _ => ?_)) | (with_reducible refine Drawn.mk (by kernel_rfl) ?_) | (refine Run.mk ?_)))
  all_goals first | exact Ret.mk rfl | exact ⟨by decide, by decide, h3, h2⟩ | skip
def sp_TRoot : SpecF := pureSp true [.slice (.int .i64)] (fun (l', _) => l'.length ≤ 64 ∧ DigL l') (fun (l', _) => .tu [(false, [.d (.int .i64) (rootV l')]), (true, [.d (.int .i64) 0, .d (.int .i64) 0])])
theorem TRoot_sp : SpFact 7 sp_TRoot := by
  refine ⟨⟨Try.f7, rfl, rfl, rfl, pureSp_ok (env_fine (sp := [(23, sp_tcheck), (24, sp_root')]) (eq := [(24, true)]) ⟨tcheck_sp, root_sp', True.intro⟩ ⟨eq_fault, True.intro⟩) rfl (fun ⟨_, _⟩ _ => rfl) ?_⟩, pureSp_loc _ _ _ _⟩
  rintro ⟨l, u⟩ - ⟨h1, h2⟩
  change List Int at l
  have h1 : l.length ≤ 64 := h1
  (refine fnM_of rfl rfl rfl rfl ?_; dsimp only [params, argAV, Ty.leaves, Ty.isSt])
  (repeat' (first | (with_reducible refine Step.mk True.intro ?_) | (with_reducible refine Step.mk ?_ ?_; focus (((try simp only [true_and, and_true, and_self, kmin, kmax, decide_eq_true_eq, decide_eq_false_iff_not, castD_self, castL_self, List.length_cons, List.length_nil, List.length_append, Int.natCast_add] at *) <;> omega))) | (with_reducible refine Step.mk ?_ ?_) | (with_reducible refine Way.t1 ?_) | (with_reducible refine Way.f1 ?_) | ((with_reducible refine Way.dec (fun _ => ?_) (fun _ => ?_)) <;> try (exfalso; omega)) | (with_reducible refine Way.nt ?_) | (with_reducible refine Way.mk (fun _ => ?_) (fun _ => ?_)) | (with_reducible refine Drawn.mk (by kernel_rfl) ?_) | (refine Run.mk ?_)))
  all_goals first | exact Ret.mk rfl | exact ⟨h1, h2⟩ | exact ⟨h1, by decide, h2⟩ | (rename_i q; exact absurd q (by decide))

def sp_cons (N : Nat) : SpecF := ownSp true [.slice (.int .i64), .int .i64, .bool] 3 (.int .i64) (fun (l', m', _, _) => l'.length ≤ N ∧ N ≤ 64 ∧ DigL l' ∧ 1 ≤ m' ∧ m' ≤ l'.length) (fun (l', m', k', _) => consV l' m'.toNat k')
theorem cons_sp : ∀ N, SpFact 28 (sp_cons N) := by
  intro N
  induction N with
  | zero =>
    refine ⟨⟨Try.f28, rfl, rfl, rfl, ownSp_okA (env_fine (sp := []) (eq := []) True.intro True.intro) rfl (fun _ => rfl) ?_⟩, ownSp_loc _ _ _ _ _ _⟩
    rintro ⟨l, m, kn, u⟩ - ⟨h1, -, -, h4, h5⟩
    change List Int at l
    change Int at m
    have h1 : l.length ≤ 0 := h1
    have h4 : 1 ≤ m := h4
    have h5 : m ≤ l.length := h5
    exact absurd h5 (by omega)
  | succ N ih =>
    refine ⟨⟨Try.f28, rfl, rfl, rfl, ownSp_okA (env_fine (sp := [(28, sp_cons N), (24, sp_root'), (48, sp_split)]) (eq := []) ⟨ih, root_sp', split_sp, True.intro⟩ True.intro) rfl (fun _ => rfl) ?_⟩, ownSp_loc _ _ _ _ _ _⟩
    rintro ⟨l, m, kn, u⟩ - ⟨h1, h2, h3, h4, h5⟩
    change List Int at l
    change Int at m
    change Bool at kn
    have h1 : l.length ≤ N + 1 := h1
    have h2 : N + 1 ≤ 64 := h2
    have h3 : DigL l := h3
    have h4 : 1 ≤ m := h4
    have h5 : m ≤ l.length := h5
    by_cases h0 : m = l.length
    · have e : consV l m.toNat kn = bif kn then [] else [rootV l] := by
        rw [h0, Int.toNat_natCast]; exact consV_all l kn (by omega)
      dsimp only
      rw [e]
      clear e
      replace h3 := Lib.hid h3
      cases kn
      · (refine fnM_of rfl rfl rfl rfl ?_; dsimp only [params, argAV, Ty.leaves, Ty.isSt])
        (repeat' (first | (with_reducible refine Step.mk True.intro ?_) | (with_reducible refine Step.mk ?_ ?_; focus (((try simp only [true_and, and_true, and_self, kmin, kmax, decide_eq_true_eq, decide_eq_false_iff_not, castD_self, castL_self, List.length_cons, List.length_nil, List.length_append, Int.natCast_add] at *) <;> omega))) | (with_reducible refine Step.mk ?_ ?_) | (with_reducible refine Way.t1 ?_) | (with_reducible refine Way.f1 ?_) | ((with_reducible refine Way.dec (fun _ => ?_) (fun _ => ?_)) <;> try (exfalso; omega)) | (with_reducible refine Way.nt ?_) | (with_reducible refine Way.mk (fun _ => ?_) (fun _ => ?_)) | (with_reducible refine Drawn.mk (by kernel_rfl) ?_) | (refine Run.mk ?_)))
        · exact ⟨show l.length ≤ 64 by omega, by decide, h3.out⟩
        · exact Ret.mk (.inl ⟨_, rfl, .inr ⟨_, _, rfl, rfl⟩⟩)
      · (refine fnM_of rfl rfl rfl rfl ?_; dsimp only [params, argAV, Ty.leaves, Ty.isSt])
        (repeat' (first | (with_reducible refine Step.mk True.intro ?_) | (with_reducible refine Step.mk ?_ ?_; focus (((try simp only [true_and, and_true, and_self, kmin, kmax, decide_eq_true_eq, decide_eq_false_iff_not, castD_self, castL_self, List.length_cons, List.length_nil, List.length_append, Int.natCast_add] at *) <;> omega))) | (with_reducible refine Step.mk ?_ ?_) | (with_reducible refine Way.t1 ?_) | (with_reducible refine Way.f1 ?_) | ((with_reducible refine Way.dec (fun _ => ?_) (fun _ => ?_)) <;> try (exfalso; omega)) | (with_reducible refine Way.nt ?_) | (with_reducible refine Way.mk (fun _ => ?_) (fun _ => ?_)) | (with_reducible refine Drawn.mk (by kernel_rfl) ?_) | (refine Run.mk ?_)))
        exact Ret.mk (.inr ⟨rfl, rfl⟩)
    · obtain ⟨s1, s2⟩ := spl_lt (n := l.length) (by omega)
      have c1 := consV_low (l := l) (m := m.toNat) kn (by omega) (by omega)
      have c2 := consV_high (l := l) (m := m.toNat) kn (by omega) (by omega)
      obtain ⟨S, hS⟩ : ∃ S, spl (((l.length : Nat) : Int)).toNat = S := ⟨_, rfl⟩
      have hS' : spl l.length = S := by rw [← hS, Int.toNat_natCast]
      rw [hS'] at s1 s2 c1 c2
      clear hS'
      have n2 : 2 ≤ l.length := by omega
      have d1 : DigL (List.drop (Int.toNat 0) (List.take ((S : Nat) : Int).toNat l)) := (h3.take _).drop _
      have d2 : DigL (List.drop ((S : Nat) : Int).toNat (List.take (((l.length : Nat) : Int)).toNat l)) := (h3.take _).drop _
      have e1 : List.drop (Int.toNat 0) (List.take ((S : Nat) : Int).toNat l) = l.take S := by simp
      have e2 : List.drop ((S : Nat) : Int).toNat (List.take (((l.length : Nat) : Int)).toNat l) = l.drop S := by simp
      have l1 : (List.drop (Int.toNat 0) (List.take ((S : Nat) : Int).toNat l)).length = S := by rw [e1, List.length_take]; omega
      have l2 : (List.drop ((S : Nat) : Int).toNat (List.take (((l.length : Nat) : Int)).toNat l)).length = l.length - S := by rw [e2, List.length_drop]
      have b1 := consV_len l.length (List.drop (Int.toNat 0) (List.take ((S : Nat) : Int).toNat l)) m.toNat kn (by omega) (by omega)
      have b2 := consV_len l.length (List.drop ((S : Nat) : Int).toNat (List.take (((l.length : Nat) : Int)).toNat l)) (m - S).toNat false (by omega)
      rw [l1] at b1
      rw [l2] at b2
      replace h3 := Lib.hid h3
      replace d1 := Lib.hid d1
      replace d2 := Lib.hid d2
      replace e1 := Lib.hid e1
      replace e2 := Lib.hid e2
      replace c1 := Lib.hid c1
      replace c2 := Lib.hid c2
      by_cases hm : m ≤ S
      · have b1 := b1 (by omega)
        clear b2
        (refine fnM_of rfl rfl rfl rfl ?_; dsimp only [params, argAV, Ty.leaves, Ty.isSt])
        (repeat' (first | (with_reducible refine Step.mk True.intro ?_) | (with_reducible refine Step.mk ?_ ?_; focus (((try simp only [true_and, and_true, and_self, kmin, kmax, decide_eq_true_eq, decide_eq_false_iff_not, castD_self, castL_self, List.length_cons, List.length_nil, List.length_append, Int.natCast_add] at *) <;> omega))) | (with_reducible refine Step.mk ?_ ?_) | (with_reducible refine Way.t1 ?_) | (with_reducible refine Way.f1 ?_) | ((with_reducible refine Way.dec (fun _ => ?_) (fun _ => ?_)) <;> try (exfalso; omega)) | (with_reducible refine Way.nt ?_) | (with_reducible refine Way.mk (fun _ => ?_) (fun _ => ?_)) | (with_reducible refine Drawn.mk (by kernel_rfl) ?_) | (refine Run.mk ?_)))
        · exact ⟨show (2 : Int) ≤ ((l.length : Nat) : Int) by omega, show ((l.length : Nat) : Int) ≤ 1000000 by omega⟩
        · rw [hS]
          exact ⟨by show (List.drop (Int.toNat 0) (List.take ((S : Nat) : Int).toNat l)).length ≤ N; omega, by omega, d1.out, h4, by show m ≤ ((List.drop (Int.toNat 0) (List.take ((S : Nat) : Int).toNat l)).length : Int); omega⟩
        · rw [hS]
          exact ⟨by show (List.drop ((S : Nat) : Int).toNat (List.take (((l.length : Nat) : Int)).toNat l)).length ≤ 64; omega, by decide, d2.out⟩
        · show ((consV (List.drop (Int.toNat 0) (List.take ((spl (((l.length : Nat) : Int)).toNat : Nat) : Int).toNat l)) m.toNat kn).length + 1) * 8 ≤ 140737488355328 ∧ (consV (List.drop (Int.toNat 0) (List.take ((spl (((l.length : Nat) : Int)).toNat : Nat) : Int).toNat l)) m.toNat kn).length + 1 ≤ 1000000000000
          rw [hS]
          omega
        · refine Ret.mk (.inl ⟨_, rfl, .inl ?_⟩)
          show some (Ob.row 3 (.int .i64) (consV (List.drop (Int.toNat 0) (List.take ((spl (((l.length : Nat) : Int)).toNat : Nat) : Int).toNat l)) m.toNat kn ++ [rootV (List.drop ((spl (((l.length : Nat) : Int)).toNat : Nat) : Int).toNat (List.take (((l.length : Nat) : Int)).toNat l))])) = _
          rw [hS, e1.out, e2.out, ← c1.out (by omega)]
      · have b2 := b2 (by omega) (by omega)
        clear b1
        (refine fnM_of rfl rfl rfl rfl ?_; dsimp only [params, argAV, Ty.leaves, Ty.isSt])
        (repeat' (first | (with_reducible refine Step.mk True.intro ?_) | (with_reducible refine Step.mk ?_ ?_; focus (((try simp only [true_and, and_true, and_self, kmin, kmax, decide_eq_true_eq, decide_eq_false_iff_not, castD_self, castL_self, List.length_cons, List.length_nil, List.length_append, Int.natCast_add] at *) <;> omega))) | (with_reducible refine Step.mk ?_ ?_) | (with_reducible refine Way.t1 ?_) | (with_reducible refine Way.f1 ?_) | ((with_reducible refine Way.dec (fun _ => ?_) (fun _ => ?_)) <;> try (exfalso; omega)) | (with_reducible refine Way.nt ?_) | (with_reducible refine Way.mk (fun _ => ?_) (fun _ => ?_)) | (with_reducible refine Drawn.mk (by kernel_rfl) ?_) | (refine Run.mk ?_)))
        · exact ⟨show (2 : Int) ≤ ((l.length : Nat) : Int) by omega, show ((l.length : Nat) : Int) ≤ 1000000 by omega⟩
        · rw [hS]
          exact ⟨by show (List.drop ((S : Nat) : Int).toNat (List.take (((l.length : Nat) : Int)).toNat l)).length ≤ N; omega, by omega, d2.out, by show 1 ≤ m - S; omega, by show m - S ≤ ((List.drop ((S : Nat) : Int).toNat (List.take (((l.length : Nat) : Int)).toNat l)).length : Int); omega⟩
        · rw [hS]
          exact ⟨by show (List.drop (Int.toNat 0) (List.take ((S : Nat) : Int).toNat l)).length ≤ 64; omega, by decide, d1.out⟩
        · show ((consV (List.drop ((spl (((l.length : Nat) : Int)).toNat : Nat) : Int).toNat (List.take (((l.length : Nat) : Int)).toNat l)) (m - ((spl (((l.length : Nat) : Int)).toNat : Nat) : Int)).toNat false).length + 1) * 8 ≤ 140737488355328 ∧ (consV (List.drop ((spl (((l.length : Nat) : Int)).toNat : Nat) : Int).toNat (List.take (((l.length : Nat) : Int)).toNat l)) (m - ((spl (((l.length : Nat) : Int)).toNat : Nat) : Int)).toNat false).length + 1 ≤ 1000000000000
          rw [hS]
          omega
        · refine Ret.mk (.inl ⟨_, rfl, .inl ?_⟩)
          show some (Ob.row 3 (.int .i64) (consV (List.drop ((spl (((l.length : Nat) : Int)).toNat : Nat) : Int).toNat (List.take (((l.length : Nat) : Int)).toNat l)) (m - ((spl (((l.length : Nat) : Int)).toNat : Nat) : Int)).toNat false ++ [rootV (List.drop (Int.toNat 0) (List.take ((spl (((l.length : Nat) : Int)).toNat : Nat) : Int).toNat l))])) = _
          have em : (m - ((S : Nat) : Int)).toNat = m.toNat - S := by omega
          rw [hS, em, e1.out, e2.out, ← c2.out (by omega)]
end Go.Proofs.Ytgdlbpihkodeoaa
