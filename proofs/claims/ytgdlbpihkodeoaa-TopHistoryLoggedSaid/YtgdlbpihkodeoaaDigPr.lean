/- digest.Pair, walked, and as a spec. -/
import Derived.Test.YtgdlbpihkodeoaaDigOf
namespace Go.Proofs.Ytgdlbpihkodeoaa
open Go.RowKit

theorem pair_any (a b : Int) (w : World) (ha0 : 0 ≤ a) (ha : a < 2305843009213693951) (hb0 : 0 ≤ b) (hb : b < 2305843009213693951) :
    Calls Try.prog 53 #[.int .i64 a, .int .i64 b] w fun e w' => e = .returned (.int .i64 (pr a b)) ∧ Below w.heap.size w w' := by
  have h1 := nx_nn b 7 31
  have h2 := nx_lt b 7 31
  go_enter Try.func53, Try.ntmps53
  go_wp2_with fail
  with_reducible refine (next_any _ _ _ _ hb0 hb (by omega) (by omega) (by omega) (by omega)).mono ?_
  rintro e w1 ⟨rfl, hb1⟩
  go_wp2_with fail
  with_reducible refine (next_any _ _ _ _ ha0 ha h1 h2 (by omega) (by omega)).mono ?_
  rintro e w2 ⟨rfl, hb2⟩
  go_wp2_with fail
  go_ret
  exact ⟨rfl, hb1.trans (hb2.mono hb1.size)⟩

theorem is_any (a : Int) (w : World) :
    Calls Try.prog 52 #[.int .i64 a] w fun e w' => e = .returned (.bool (isD a)) ∧ w = w' := by
  go_enter Try.func52, Try.ntmps52
  by_cases h : 0 ≤ a
  · go_wp2
    go_ret
    exact ⟨congrArg (fun b => Ending.returned (.bool b)) (by simp [isD, h]), rfl⟩
  · have h' : decide (0 ≤ a) = false := by simpa using h
    go_wp2
    go_ret
    exact ⟨congrArg (fun b => Ending.returned (.bool b)) (by simp only [isD, h', Bool.false_and]), rfl⟩

theorem idx0 (a b : Int) (w : World) : (Instr.index 93 (.agg #[.int .i64 a, .int .i64 b]) (.int .i64 0)).run Try.prog w = .ok (.int .i64 a) w := by kernel_rfl
theorem idx1 (a b : Int) (w : World) : (Instr.index 93 (.agg #[.int .i64 a, .int .i64 b]) (.int .i64 1)).run Try.prog w = .ok (.int .i64 b) w := by kernel_rfl

/-- what Pair answers -/
def pairV (a b : Int) : Int := if isD a then if isD b then pr a b else 0 else 0
def pairC (a b : Int) : Int := if isD a then if isD b then 0 else 3 else 3
def pairI (a b : Int) : Int := if isD a then if isD b then 0 else 1 else 0

set_option maxHeartbeats 400000 in
theorem Pair_any (a b : Int) (w : World) :
    Calls Try.prog 27 #[.int .i64 a, .int .i64 b] w fun e w' => e = .returned (.tuple #[.int .i64 (pairV a b), .agg #[.int .i64 (pairC a b), .int .i64 (pairI a b)]]) ∧ Below w.heap.size w w' := by
  have i0 := idx0 a b
  have i1 := idx1 a b
  by_cases ha : isD a = true
  · obtain ⟨a0, a1⟩ := (isD_iff a).1 ha
    by_cases hb : isD b = true
    · have va : pairV a b = pr a b := by simp [pairV, ha, hb]
      have vc : pairC a b = 0 := by simp [pairC, ha, hb]
      have vi : pairI a b = 0 := by simp [pairI, ha, hb]
      rw [va, vc, vi]
      clear va vc vi
      obtain ⟨b0, b1⟩ := (isD_iff b).1 hb
      go_enter Try.func27, Try.ntmps27
      go_wp2
      refine wp_loop_rounds 3 ?_
      rw [rounds_succ]
      go_wp2_with (go_at_call 52; with_reducible refine (is_any _ _).mono ?_; rintro e w1 ⟨rfl, rfl⟩)
      rw [rounds_succ]
      go_wp2_with (go_at_call 52; with_reducible refine (is_any _ _).mono ?_; rintro e w1 ⟨rfl, rfl⟩)
      rw [rounds_succ]
      go_wp2_with (go_at_call 53; with_reducible refine (pair_any _ _ _ a0 a1 b0 b1).mono ?_; rintro e w1 ⟨rfl, hb1⟩; have hB : Blk w1 w.heap.size #[.int .i64 0, .int .i64 0] 24 := (Blk.new w _ _).call hb1; have c0 := hB.cell 0; have c1 := hB.cell 1; have f0 := hB.fr 0; have f1 := hB.fr 1)
      refine bodyPost_ret (v := .tuple #[.int .i64 (pr a b), .agg #[.int .i64 0, .int .i64 0]]) (by simp [results, Try.results27, go_sem, c0, c1]) rfl ?_
      exact ⟨rfl, ((((Below.refl _ _).alloc (Nat.le_refl _) _).trans (hb1.mono (by simp))).setCell (by simp) _).setCell (by simp) _⟩
    · have hb : isD b = false := by simpa using hb
      have va : pairV a b = 0 := by simp [pairV, hb]
      have vc : pairC a b = 3 := by simp [pairC, hb]
      have vi : pairI a b = 1 := by simp [pairI, ha, hb]
      rw [va, vc, vi]
      clear va vc vi
      go_enter Try.func27, Try.ntmps27
      go_wp2
      refine wp_loop_rounds 3 ?_
      rw [rounds_succ]
      go_wp2_with (go_at_call 52; with_reducible refine (is_any _ _).mono ?_; rintro e w1 ⟨rfl, rfl⟩)
      rw [rounds_succ]
      go_wp2_with (go_at_call 52; with_reducible refine (is_any _ _).mono ?_; rintro e w1 ⟨rfl, rfl⟩)
      refine bodyPost_ret (v := .tuple #[.int .i64 0, .agg #[.int .i64 3, .int .i64 1]]) (by simp [results, Try.results27, go_sem]) rfl ?_
      exact ⟨rfl, (Below.refl _ _).alloc (Nat.le_refl _) _⟩
  · have ha : isD a = false := by simpa using ha
    have va : pairV a b = 0 := by simp [pairV, ha]
    have vc : pairC a b = 3 := by simp [pairC, ha]
    have vi : pairI a b = 0 := by simp [pairI, ha]
    rw [va, vc, vi]
    clear va vc vi
    go_enter Try.func27, Try.ntmps27
    go_wp2
    refine wp_loop_rounds 3 ?_
    rw [rounds_succ]
    go_wp2_with (go_at_call 52; with_reducible refine (is_any _ _).mono ?_; rintro e w1 ⟨rfl, rfl⟩)
    refine bodyPost_ret (v := .tuple #[.int .i64 0, .agg #[.int .i64 3, .int .i64 0]]) (by simp [results, Try.results27, go_sem]) rfl ?_
    exact ⟨rfl, (Below.refl _ _).alloc (Nat.le_refl _) _⟩

def sp_DPair : SpecF := pureSp true [.int .i64, .int .i64] (fun (a', b', _) => (0 ≤ a' ∧ a' < 2305843009213693951) ∧ (0 ≤ b' ∧ b' < 2305843009213693951)) (fun (a', b', _) => .tu [(false, [.d (.int .i64) (pr a' b')]), (true, [.d (.int .i64) 0, .d (.int .i64) 0])])
theorem DPair_sp : SpFact 27 sp_DPair := by
  refine ⟨⟨Try.f27, rfl, rfl, rfl, callsSp_ok (fun ⟨_, _, _⟩ _ => rfl) ?_⟩, pureSp_loc _ _ _ _⟩
  rintro ⟨a, b, u⟩ w G A vals - ⟨ha, hb⟩ hr
  change Int at a b
  have ha : 0 ≤ a ∧ a < 2305843009213693951 := ha
  have hb : 0 ≤ b ∧ b < 2305843009213693951 := hb
  obtain ⟨v1, r1, rfl, h1, v2, r2, rfl, h2, rfl⟩ := hr
  have h1 := AV.one_rel (x := .v false [.d (.int .i64) a]) rfl h1
  have h2 := AV.one_rel (x := .v false [.d (.int .i64) b]) rfl h2
  obtain ⟨h1, -⟩ := h1
  obtain ⟨h2, -⟩ := h2
  cases h1
  cases h2
  have i1 : isD a = true := (isD_iff a).2 ha
  have i2 : isD b = true := (isD_iff b).2 hb
  refine Calls.mono (Pair_any a b w) ?_
  rintro e w' ⟨rfl, hbl⟩
  refine ⟨_, rfl, (Only.refl _ _).call hbl, ?_⟩
  rw [show pairV a b = pr a b by unfold pairV; rw [i1, i2]; rfl, show pairC a b = 0 by unfold pairC; rw [i1, i2]; rfl, show pairI a b = 0 by unfold pairI; rw [i1, i2]; rfl]
  have := pr_bd a b
  exact fault_rel (by omega) (by omega) (by omega)
end Go.Proofs.Ytgdlbpihkodeoaa
