/- The third reference, where histories are valid: In, isDigest, HistoryFault. -/
import Derived.Test.YtgdlbpihkodeoaaWxHist
namespace Go.Proofs.Ytgdlbpihkodeoaa
open Go.RowKit
set_option maxRecDepth 20000
set_option linter.unusedSimpArgs false

theorem paC_inc {i : Int} : ∀ {q : Int} {l : List Int}, paC i q l = 0 → (∀ p ∈ l, q < p) ∧ ∀ k (h : k + 1 < l.length), l[k] < l[k + 1]
  | _, [], _ => ⟨fun p hp => (by cases hp), fun k h => absurd h (Nat.not_lt_zero _)⟩
  | q, x :: r, h => by
    unfold paC at h
    split at h
    · exact absurd h (by decide)
    split at h
    · exact absurd h (by decide)
    rename_i h1 h2
    obtain ⟨i1, i2⟩ := paC_inc h
    refine ⟨fun p hp => ?_, fun k hk => ?_⟩
    · rcases List.mem_cons.1 hp with rfl | hp
      · omega
      · have := i1 p hp; omega
    · cases k with
      | zero => exact i1 _ (List.getElem_mem _)
      | succ k => exact i2 k (by simpa using hk)
theorem cmC_inc {c : Cm} {i : Int} (h : cmC c i = 0) : ∀ k (h : k + 1 < c.1.length), c.1[k] < c.1[k + 1] := by
  unfold cmC at h
  split at h
  · exact absurd h (by decide)
  split at h
  · contradiction
  rename_i h1 h2
  exact (paC_inc (Classical.not_not.1 h2)).2

def sp_InT : SpecF := pureSp true [.int .i64, .int .i64, .int .i64] (fun x => x.2.1 ≤ x.1 ∧ x.1 ≤ x.2.2.1) (fun _ => .v false [.d .bool true])
theorem InT_sp : SpFact 9 sp_InT := by
  refine ⟨⟨Try.f9, rfl, rfl, rfl, pureSp_ok (env_fine (sp := []) (eq := []) True.intro True.intro) rfl (fun _ _ => rfl) ?_⟩, pureSp_loc _ _ _ _⟩
  rintro ⟨n, lo, hi, u⟩ - ⟨h1, h2⟩
  change Int at n lo hi
  have h1 : lo ≤ n := h1
  have h2 : n ≤ hi := h2
  (refine fnM_of rfl rfl rfl rfl ?_; dsimp only [params, argAV, Ty.leaves, Ty.isSt])
  (repeat' (first | (with_reducible refine Cend.go ?_) | (with_reducible refine Step.mk True.intro ?_) | (with_reducible refine Step.mk ?_ ?_; focus (((try simp only [true_and, and_true, and_self, kmin, kmax, decide_eq_true_eq, decide_eq_false_iff_not, castD_self, castL_self, List.length_cons, List.length_nil, List.length_append, Int.natCast_add] at *) <;> omega))) | (with_reducible refine Step.mk ?_ ?_) | (with_reducible refine Way.t1 ?_) | (with_reducible refine Way.f1 ?_) | ((with_reducible refine Way.dec (fun _ => ?_) (fun _ => ?_)) <;> try (exfalso; omega)) | (with_reducible refine Way.nt ?_) | (with_reducible refine Way.mk (fun _ => ?_) (fun _ => ?_)) | (with_reducible refine Drawn.mk (by kernel_rfl) ?_) | (refine Run.mk ?_)))
  (refine Ret.mk (show AV.v false [Lf.d .bool _] = AV.v false [Lf.d .bool _] from congrArg (fun z => AV.v false [Lf.d .bool z]) (Eq.symm ((decide_eq_true h2).symm))))
def sp_isDT : SpecF := pureSp true [.int .i64] (fun x => 0 ≤ x.1 ∧ x.1 < 2305843009213693951) (fun _ => .v false [.d .bool true])
theorem isDT_sp : SpFact 61 sp_isDT := by
  refine ⟨⟨Try.f61, rfl, rfl, rfl, pureSp_ok (env_fine (sp := [(9, sp_InT)]) (eq := []) ⟨InT_sp, True.intro⟩ True.intro) rfl (fun _ _ => rfl) ?_⟩, pureSp_loc _ _ _ _⟩
  rintro ⟨n, u⟩ - ⟨h1, h2⟩
  change Int at n
  have h1 : 0 ≤ n := h1
  have h2 : n < 2305843009213693951 := h2
  (refine fnM_of rfl rfl rfl rfl ?_; dsimp only [params, argAV, Ty.leaves, Ty.isSt])
  (repeat' (first | (with_reducible refine Cend.go ?_) | (with_reducible refine Step.mk True.intro ?_) | (with_reducible refine Step.mk ?_ ?_; focus (((try simp only [true_and, and_true, and_self, kmin, kmax, decide_eq_true_eq, decide_eq_false_iff_not, castD_self, castL_self, List.length_cons, List.length_nil, List.length_append, Int.natCast_add] at *) <;> omega))) | (with_reducible refine Step.mk ?_ ?_) | (with_reducible refine Way.t1 ?_) | (with_reducible refine Way.f1 ?_) | ((with_reducible refine Way.dec (fun _ => ?_) (fun _ => ?_)) <;> try (exfalso; omega)) | (with_reducible refine Way.nt ?_) | (with_reducible refine Way.mk (fun _ => ?_) (fun _ => ?_)) | (with_reducible refine Drawn.mk (by kernel_rfl) ?_) | (refine Run.mk ?_)))
  · show (0 : Int) ≤ n ∧ n ≤ 2305843009213693950; omega
  exact Ret.mk rfl

def sp_HF : SpecF := pureSp false [.slice tCm] (fun x => hC x.1 = 0) (fun _ => .v true [.d (.int .i64) 0, .d (.int .i64) 0])
theorem HF_sp : SpFact 37 sp_HF := by
  refine ⟨⟨Try.f37, rfl, rfl, rfl, pureSp_ok (env_fine (sp := [(9, sp_InT), (61, sp_isDT)]) (eq := []) ⟨InT_sp, isDT_sp, True.intro⟩ True.intro) rfl (fun _ _ => rfl) ?_⟩, pureSp_loc _ _ _ _⟩
  rintro ⟨l, u⟩ - hC0
  change List Cm at l
  have hC0 : hC l = 0 := hC0
  have hl : l.length ≤ 60 := (hC_all.1 hC0).1
  have hc := (hC_all.1 hC0).2
  clear hC0
  replace hc := Lib.hid hc
  (refine fnM_of rfl rfl rfl rfl ?_; dsimp only [params, argAV, Ty.leaves, Ty.isSt])
  (repeat' (first | (with_reducible refine Cend.go ?_) | (with_reducible refine Step.mk True.intro ?_) | (with_reducible refine Step.mk ?_ ?_; focus (((try simp only [true_and, and_true, and_self, kmin, kmax, decide_eq_true_eq, decide_eq_false_iff_not, castD_self, castL_self, List.length_cons, List.length_nil, List.length_append, Int.natCast_add] at *) <;> omega))) | (with_reducible refine Step.mk ?_ ?_) | (with_reducible refine Way.t1 ?_) | (with_reducible refine Way.f1 ?_) | ((with_reducible refine Way.dec (fun _ => ?_) (fun _ => ?_)) <;> try (exfalso; omega)) | (with_reducible refine Way.nt ?_) | (with_reducible refine Way.mk (fun _ => ?_) (fun _ => ?_)) | (with_reducible refine Drawn.mk (by kernel_rfl) ?_) | (refine Run.mk ?_)))
  refine loop_by (X := Nat) (fun x => [.put 0 (.v false [.d (.slice tCm) l]), .put 2 (.v false [.p 2 0]), .put 3 (.v false [.d (.int .i64) (x : Int)])])
    (fun _ => [.put 2 (.box 24 [.d (.int .i64) 0, .d (.int .i64) 0])]) (fun x => x ≤ l.length) (fun x => l.length - x) 0 (Nat.zero_le _) ?_ ?_
  · (refine Wk.keep ?_ ?_ <;> repeat' (first | exact True.intro | refine And.intro rfl ?_ | refine And.intro (congrArg (fun z : Int => AV.v false [Lf.d (.int .i64) z]) (by first | omega | (simp only [Int.natCast_add, List.length_cons, List.length_append, List.length_nil]; omega))) ?_ | refine And.intro ?_ ?_))
  intro k hk
  by_cases hlt : k < l.length
  · have hg : l.getD ((k : Int)).toNat tCm.dflt = l[k] := getD_of _ hlt
    have hgd := cmC_good (hc.out k hlt)
    have hin := cmC_inc (hc.out k hlt)
    rw [← hg] at hgd hin
    clear hg
    obtain ⟨g1, g2, g3, g4, g5, g6, g7, g8, g9⟩ := hgd
    replace g2 := Lib.hid g2
    replace hin := Lib.hid hin
    (repeat' (first | (with_reducible refine Cend.go ?_) | (with_reducible refine Step.mk True.intro ?_) | (with_reducible refine Step.mk ?_ ?_; focus (((try simp only [true_and, and_true, and_self, kmin, kmax, decide_eq_true_eq, decide_eq_false_iff_not, castD_self, castL_self, List.length_cons, List.length_nil, List.length_append, Int.natCast_add] at *) <;> omega))) | (with_reducible refine Step.mk ?_ ?_) | (with_reducible refine Way.t1 ?_) | (with_reducible refine Way.f1 ?_) | ((with_reducible refine Way.dec (fun _ => ?_) (fun _ => ?_)) <;> try (exfalso; omega)) | (with_reducible refine Way.nt ?_) | (with_reducible refine Way.mk (fun _ => ?_) (fun _ => ?_)) | (with_reducible refine Drawn.mk (by kernel_rfl) ?_) | (refine Run.mk ?_)))
    generalize l.getD ((k : Int)).toNat tCm.dflt = c at *
    obtain ⟨ps, au, ti, tr, ms⟩ := c
    change List Int at ps
    change Int at au ti tr
    change ByteArray at ms
    dsimp only at g1 g2 g3 g4 g5 g6 g7 g8 g9 hin ⊢
    have g9 : ByteArray.size ms ≤ 80 := g9
    refine loop_by (X := Nat) (fun x => [.put 0 (.v false [.d (.slice tCm) l]), .put 2 (.v false [.p 2 0]), .put 3 (.v false [.d (.int .i64) (k : Int)]), .put 4 (.v false [.p 4 0]), .put 5 (.v false [.d (.int .i64) (x : Int)])])
      (fun _ => [.put 2 (.box 24 [.d (.int .i64) 0, .d (.int .i64) 0]), .put 4 (.box 61 [.d (.slice (.int .i64)) ps, .d (.int .i64) au, .d (.int .i64) ti, .d (.int .i64) tr, .d .str ms])]) (fun x => x ≤ ps.length) (fun x => ps.length - x) 0 (Nat.zero_le _) ?_ ?_
    · (refine Wk.keep ?_ ?_ <;> repeat' (first | exact True.intro | refine And.intro rfl ?_ | refine And.intro (congrArg (fun z : Int => AV.v false [Lf.d (.int .i64) z]) (by first | omega | (simp only [Int.natCast_add, List.length_cons, List.length_append, List.length_nil]; omega))) ?_ | refine And.intro ?_ ?_))
    intro q hq
    by_cases hlq : q < ps.length
    · have hg : ps.getD ((q : Int)).toNat (Ty.int .i64).dflt = ps[q] := getD_of _ hlq
      obtain ⟨m0, m1⟩ := g2.out _ (List.getElem_mem hlq)
      have hi : 0 < q → ps.getD ((q : Int) - 1).toNat (Ty.int .i64).dflt < ps.getD ((q : Int)).toNat (Ty.int .i64).dflt := fun h => by
        have h1 := hin.out (q - 1) (by omega)
        have e1 : ps.getD ((q : Int) - 1).toNat (Ty.int .i64).dflt = ps[q - 1] := by
          rw [show ((q : Int) - 1) = ((q - 1 : Nat) : Int) by omega]; exact getD_of _ (by omega)
        rw [e1, hg]
        have e2 : ps[q - 1 + 1] = ps[q] := by congr 1; omega
        rw [← e2]
        exact h1
      rw [← hg] at m0 m1
      clear hg
      by_cases h0 : 0 < q
      · have hi := hi h0
        (repeat' (first | (with_reducible refine Cend.go ?_) | (with_reducible refine Step.mk True.intro ?_) | (with_reducible refine Step.mk ?_ ?_; focus (((try simp only [true_and, and_true, and_self, kmin, kmax, decide_eq_true_eq, decide_eq_false_iff_not, castD_self, castL_self, List.length_cons, List.length_nil, List.length_append, Int.natCast_add] at *) <;> omega))) | (with_reducible refine Step.mk ?_ ?_) | (with_reducible refine Way.t1 ?_) | (with_reducible refine Way.f1 ?_) | ((with_reducible refine Way.dec (fun _ => ?_) (fun _ => ?_)) <;> try (exfalso; omega)) | (with_reducible refine Way.nt ?_) | (with_reducible refine Way.mk (fun _ => ?_) (fun _ => ?_)) | (with_reducible refine Drawn.mk (by kernel_rfl) ?_) | (refine Run.mk ?_)))
        · show (0 : Int) ≤ ps.getD ((q : Int)).toNat (Ty.int .i64).dflt ∧ ps.getD ((q : Int)).toNat (Ty.int .i64).dflt ≤ (k : Int) - 1; omega
        · (refine Back.by (q + 1) ?_ ?_ ?_; focus (refine Wk.keep ?_ ?_ <;> repeat' (first | exact True.intro | refine And.intro rfl ?_ | refine And.intro (congrArg (fun z : Int => AV.v false [Lf.d (.int .i64) z]) (by first | omega | (simp only [Int.natCast_add, List.length_cons, List.length_append, List.length_nil]; omega))) ?_ | refine And.intro ?_ ?_)))
          · exact hlq
          · show ps.length - (q + 1) < ps.length - q; omega
      · clear hi
        (repeat' (first | (with_reducible refine Cend.go ?_) | (with_reducible refine Step.mk True.intro ?_) | (with_reducible refine Step.mk ?_ ?_; focus (((try simp only [true_and, and_true, and_self, kmin, kmax, decide_eq_true_eq, decide_eq_false_iff_not, castD_self, castL_self, List.length_cons, List.length_nil, List.length_append, Int.natCast_add] at *) <;> omega))) | (with_reducible refine Step.mk ?_ ?_) | (with_reducible refine Way.t1 ?_) | (with_reducible refine Way.f1 ?_) | ((with_reducible refine Way.dec (fun _ => ?_) (fun _ => ?_)) <;> try (exfalso; omega)) | (with_reducible refine Way.nt ?_) | (with_reducible refine Way.mk (fun _ => ?_) (fun _ => ?_)) | (with_reducible refine Drawn.mk (by kernel_rfl) ?_) | (refine Run.mk ?_)))
        · show (0 : Int) ≤ ps.getD ((q : Int)).toNat (Ty.int .i64).dflt ∧ ps.getD ((q : Int)).toNat (Ty.int .i64).dflt ≤ (k : Int) - 1; omega
        · (refine Back.by (q + 1) ?_ ?_ ?_; focus (refine Wk.keep ?_ ?_ <;> repeat' (first | exact True.intro | refine And.intro rfl ?_ | refine And.intro (congrArg (fun z : Int => AV.v false [Lf.d (.int .i64) z]) (by first | omega | (simp only [Int.natCast_add, List.length_cons, List.length_append, List.length_nil]; omega))) ?_ | refine And.intro ?_ ?_)))
          · exact hlq
          · show ps.length - (q + 1) < ps.length - q; omega
    · (repeat' (first | (with_reducible refine Cend.go ?_) | (with_reducible refine Step.mk True.intro ?_) | (with_reducible refine Step.mk ?_ ?_; focus (((try simp only [true_and, and_true, and_self, kmin, kmax, decide_eq_true_eq, decide_eq_false_iff_not, castD_self, castL_self, List.length_cons, List.length_nil, List.length_append, Int.natCast_add] at *) <;> omega))) | (with_reducible refine Step.mk ?_ ?_) | (with_reducible refine Way.t1 ?_) | (with_reducible refine Way.f1 ?_) | ((with_reducible refine Way.dec (fun _ => ?_) (fun _ => ?_)) <;> try (exfalso; omega)) | (with_reducible refine Way.nt ?_) | (with_reducible refine Way.mk (fun _ => ?_) (fun _ => ?_)) | (with_reducible refine Drawn.mk (by kernel_rfl) ?_) | (refine Run.mk ?_)))
      · show (0 : Int) ≤ au ∧ au ≤ 7; omega
      · show (0 : Int) ≤ ti ∧ ti ≤ 100000; omega
      · show (0 : Int) ≤ tr ∧ tr < 2305843009213693951; omega
      · (refine Back.by (k + 1) ?_ ?_ ?_; focus (refine Wk.keep ?_ ?_ <;> repeat' (first | exact True.intro | refine And.intro rfl ?_ | refine And.intro (congrArg (fun z : Int => AV.v false [Lf.d (.int .i64) z]) (by first | omega | (simp only [Int.natCast_add, List.length_cons, List.length_append, List.length_nil]; omega))) ?_ | refine And.intro ?_ ?_)))
        · exact hlt
        · show l.length - (k + 1) < l.length - k; omega
  · (repeat' (first | (with_reducible refine Cend.go ?_) | (with_reducible refine Step.mk True.intro ?_) | (with_reducible refine Step.mk ?_ ?_; focus (((try simp only [true_and, and_true, and_self, kmin, kmax, decide_eq_true_eq, decide_eq_false_iff_not, castD_self, castL_self, List.length_cons, List.length_nil, List.length_append, Int.natCast_add] at *) <;> omega))) | (with_reducible refine Step.mk ?_ ?_) | (with_reducible refine Way.t1 ?_) | (with_reducible refine Way.f1 ?_) | ((with_reducible refine Way.dec (fun _ => ?_) (fun _ => ?_)) <;> try (exfalso; omega)) | (with_reducible refine Way.nt ?_) | (with_reducible refine Way.mk (fun _ => ?_) (fun _ => ?_)) | (with_reducible refine Drawn.mk (by kernel_rfl) ?_) | (refine Run.mk ?_)))
    exact Ret.mk rfl
end Go.Proofs.Ytgdlbpihkodeoaa
