/- Digests: the walks of mul, next, pair, Of. -/
import Derived.Test.YtkokleicgpimbaaRows
import Derived.Test.YtkokleicgpimbaaDigPure
import Derived.Test.YtkokleicgpimbaaMemU8
namespace Go.Proofs.Ytkokleicgpimbaa
open Go.RowKit

theorem mul_inv0 (p q r a b : Nat) (h : (r + p * q) % 2305843009213693951 = a * b % 2305843009213693951) (hq : q % 2 = 0) :
    (r + 2 * p % 2305843009213693951 * (q / 2)) % 2305843009213693951 = a * b % 2305843009213693951 := by
  have e : p * q = 2 * p * (q / 2) := by
    have : q = 2 * (q / 2) := by omega
    calc p * q = p * (2 * (q / 2)) := by rw [← this]
      _ = 2 * p * (q / 2) := by rw [← Nat.mul_assoc, Nat.mul_comm p 2]
  rw [← h, e, Nat.add_mod, Nat.mod_mul_mod, ← Nat.add_mod]
theorem mul_inv1 (p q r a b : Nat) (h : (r + p * q) % 2305843009213693951 = a * b % 2305843009213693951) (hq : q % 2 = 1) :
    ((r + p) % 2305843009213693951 + 2 * p % 2305843009213693951 * (q / 2)) % 2305843009213693951 = a * b % 2305843009213693951 := by
  have e : p * q = p + 2 * p * (q / 2) := by
    have : q = 2 * (q / 2) + 1 := by omega
    calc p * q = p * (2 * (q / 2) + 1) := by rw [← this]
      _ = p + 2 * p * (q / 2) := by rw [Nat.mul_add, ← Nat.mul_assoc, Nat.mul_comm p 2]; omega
  rw [← h, e, ← Nat.add_assoc, Nat.add_mod, Nat.mod_mul_mod, Nat.mod_mod, ← Nat.add_mod]

set_option maxHeartbeats 400000 in
theorem mul_nat (a b : Nat) (w : World) (ha : a < 2305843009213693951) (hb : b < 2305843009213693951) :
    Calls Try.prog 23 #[.int .i64 a, .int .i64 b] w fun e w' => e = .returned (.int .i64 ((a * b % 2305843009213693951 : Nat) : Int)) ∧ w = w' := by
  go_enter Try.func23, Try.ntmps23
  go_wp2
  go_loop [0, 1, 5] (fun x y o => ∃ p q r : Nat, x = .int .i64 p ∧ y = .int .i64 q ∧ o = .int .i64 r ∧ p < 2305843009213693951 ∧ q < 2305843009213693951 ∧ r < 2305843009213693951 ∧ (r + p * q) % 2305843009213693951 = a * b % 2305843009213693951) (fun _ y _ => (intOf y).toNat)
  case atStart => exact ⟨a, b, 0, rfl, rfl, rfl, ha, hb, by omega, by simp⟩
  case round =>
    obtain ⟨p, q, r, rfl, rfl, rfl, hp, hq, hr, h⟩ := hrel
    have H := Lib.hid h; clear h
    by_cases hq0 : q = 0
    · subst hq0
      go_wp2
      go_ret
      have H := H.out
      simp only [Nat.mul_zero, Nat.add_zero] at H
      rw [Nat.mod_eq_of_lt hr] at H
      exact ⟨ret_int (by rw [H]; simp), rfl⟩
    · have e1 := and1 q
      have hq1 : 0 < q := by omega
      clear hq0
      rcases Nat.mod_two_eq_zero_or_one q with h2 | h2
      · rw [h2] at e1
        have H2 := Lib.hid h2; clear h2
        go_wp2
        go_round
        case rel => exact ⟨2 * p % 2305843009213693951, q / 2, r, by go_num, by go_num, rfl, by omega, by omega, hr, mul_inv0 _ _ _ _ _ H.out H2.out⟩
        case measure => simp [intOf]; omega
      · rw [h2] at e1
        have H2 := Lib.hid h2; clear h2
        go_wp2
        go_round
        case rel => exact ⟨2 * p % 2305843009213693951, q / 2, (r + p) % 2305843009213693951, by go_num, by go_num, by go_num, by omega, by omega, by omega, mul_inv1 _ _ _ _ _ H.out H2.out⟩
        case measure => simp [intOf]; omega

theorem mul_any (a b : Int) (w : World) (ha0 : 0 ≤ a) (ha : a < 2305843009213693951) (hb0 : 0 ≤ b) (hb : b < 2305843009213693951) :
    Calls Try.prog 23 #[.int .i64 a, .int .i64 b] w fun e w' => e = .returned (.int .i64 (a * b % 2305843009213693951)) ∧ w = w' := by
  obtain ⟨m, rfl⟩ := Int.eq_ofNat_of_zero_le ha0
  obtain ⟨n, rfl⟩ := Int.eq_ofNat_of_zero_le hb0
  refine (mul_nat m n w (by omega) (by omega)).mono ?_
  rintro e w' ⟨rfl, rfl⟩
  exact ⟨by simp, rfl⟩

theorem next_any (a b f : Int) (w : World) (ha0 : 0 ≤ a) (ha : a < 2305843009213693951) (hb0 : 0 ≤ b) (hb : b < 2305843009213693951) (hf0 : 0 ≤ f) (hf : f < 2305843009213693951) :
    Calls Try.prog 19 #[.agg #[.int .i64 a, .int .i64 b], .int .i64 f] w fun e w' => e = .returned (.int .i64 (nx a b f)) ∧ Below w.heap.size w w' := by
  go_enter Try.func19, Try.ntmps19
  go_wp2
  have hb1 : a * f % 2305843009213693951 < 2305843009213693951 := Int.emod_lt_of_pos _ (by omega)
  have hb2 : 0 ≤ a * f % 2305843009213693951 := Int.emod_nonneg _ (by omega)
  go_quiet ((go_at_call 23; exact Calls.quiet_of_same ((mul_any _ _ _ ha0 ha hf0 hf).mono fun e w' h => ⟨h.1, h.2.symm⟩)))
  go_wp2
  go_ret
  exact ⟨by simp [nx], below_drewN ((Below.refl _ _).alloc (Nat.le_refl _) _) _⟩

theorem pair_any (a b : Int) (w : World) (ha0 : 0 ≤ a) (ha : a < 2305843009213693951) (hb0 : 0 ≤ b) (hb : b < 2305843009213693951) :
    Calls Try.prog 21 #[.int .i64 a, .int .i64 b] w fun e w' => e = .returned (.int .i64 (pr a b)) ∧ Below w.heap.size w w' := by
  have h1 := nx_nn b 7 31
  have h2 := nx_lt b 7 31
  go_enter Try.func21, Try.ntmps21
  go_wp2_with fail
  with_reducible refine (next_any _ _ _ _ hb0 hb (by omega) (by omega) (by omega) (by omega)).mono ?_
  rintro e w1 ⟨rfl, hb1⟩
  go_wp2_with fail
  with_reducible refine (next_any _ _ _ _ ha0 ha h1 h2 (by omega) (by omega)).mono ?_
  rintro e w2 ⟨rfl, hb2⟩
  go_wp2_with fail
  go_ret
  exact ⟨rfl, hb1.trans (hb2.mono hb1.size)⟩

theorem is_any (a : Int) (w : World) :
    Calls Try.prog 20 #[.int .i64 a] w fun e w' => e = .returned (.bool (isD a)) ∧ w = w' := by
  go_enter Try.func20, Try.ntmps20
  by_cases h : 0 ≤ a
  · go_wp2
    go_ret
    exact ⟨congrArg (fun b => Ending.returned (.bool b)) (by simp [isD, h]), rfl⟩
  · have h' : decide (0 ≤ a) = false := by simpa using h
    go_wp2
    go_ret
    exact ⟨congrArg (fun b => Ending.returned (.bool b)) (by simp only [isD, h', Bool.false_and]), rfl⟩

theorem of_big (w : World) (v : Value) (l : List UInt8) (h : U8s w v l) (hl : 4096 < l.length) :
    Calls Try.prog 9 #[v] w fun e w' => e = .returned (.tuple #[.int .i64 0, .agg #[.int .i64 2, .int .i64 0]]) ∧ Below w.heap.size w w' := by
  obtain ⟨ao, cap, rfl, h1, h2, h3, h4⟩ := h
  simp only [List.length_map] at h1
  rw [maxLen_eq] at h2
  go_enter Try.func9, Try.ntmps9
  rw [List.length_map]
  go_wp2
  refine bodyPost_ret (v := .tuple #[.int .i64 0, .agg #[.int .i64 2, .int .i64 0]]) (by simp [results, Try.results9, go_sem]) rfl ?_
  exact ⟨rfl, ((Below.refl _ _).alloc (Nat.le_refl _) _)⟩

set_option maxHeartbeats 400000 in
theorem of_small (w : World) (v : Value) (l : List UInt8) (h : U8s w v l) (hl : l.length ≤ 4096) :
    Calls Try.prog 9 #[v] w fun e w' => e = .returned (.tuple #[.int .i64 (dig l), .agg #[.int .i64 0, .int .i64 0]]) ∧ Below w.heap.size w w' := by
  obtain ⟨ao, cap, rfl, h1, h2, h3, h4⟩ := h
  simp only [List.length_map] at h1
  rw [maxLen_eq] at h2
  replace h4 := Lib.hid h4
  replace h3 := Lib.hid h3
  go_enter Try.func9, Try.ntmps9
  rw [List.length_map]
  go_wp2
  go_loopw [4, 13] (fun x i wr => ∃ k : Nat, k ≤ l.length ∧ i = .int .i64 k ∧ x = .int .i64 (dig (l.take k)) ∧ Below w.heap.size w wr ∧ Blk wr w.heap.size #[.int .i64 0, .int .i64 0] 24) (fun _ i _ => l.length - (intOf i).toNat)
  case atStart => exact ⟨0, Nat.zero_le _, rfl, rfl, (Below.refl _ _).alloc (Nat.le_refl _) _, Blk.new _ _ _⟩
  case round =>
    obtain ⟨k, hk, rfl, rfl, hb, hB⟩ := hrel
    by_cases hlt : k < l.length
    · obtain ⟨b, off, e, hlt2, hc⟩ := h3.out.at k (by simpa using hlt)
      have hcell : wr.cell? ⟨b, off + k, none⟩ = some (.int .u8 (l[k].toNat)) := by
        rw [hb.cell (p := ⟨b, off + k, none⟩) hlt2, hc]
        simp [u8v]
      subst e
      have hd := dig_bd (l.take k)
      have hu := l[k].toNat_lt
      have hs := Lib.hid (dig_take l k hlt)
      clear hc
      go_wp2_with (go_at_call 19; with_reducible refine (next_any _ _ _ _ (by omega) (by omega) (by omega) (by omega) (by omega) (by omega)).mono ?_; rintro e w1 ⟨rfl, hb1⟩)
      go_roundw
      case rel => exact ⟨k + 1, hlt, by go_num, by rw [hs.out], hb.trans (hb1.mono hb.size), hB.call hb1⟩
      case measure => simp [intOf]; omega
    · have c0 := hB.cell 0
      have c1 := hB.cell 1
      have f0 := hB.fr 0
      have f1 := hB.fr 1
      have e : l.take k = l := List.take_of_length_le (by omega)
      rw [e]
      go_wp2
      refine bodyPost_ret (v := .tuple #[.int .i64 (dig l), .agg #[.int .i64 0, .int .i64 0]]) (by simp [results, Try.results9, go_sem, c0, c1]) rfl ?_
      exact ⟨rfl, (hb.setCell (by simp) _).setCell (by simp) _⟩

theorem idx0 (a b : Int) (w : World) : (Instr.index 42 (.agg #[.int .i64 a, .int .i64 b]) (.int .i64 0)).run Try.prog w = .ok (.int .i64 a) w := by kernel_rfl
theorem idx1 (a b : Int) (w : World) : (Instr.index 42 (.agg #[.int .i64 a, .int .i64 b]) (.int .i64 1)).run Try.prog w = .ok (.int .i64 b) w := by kernel_rfl

/-- what Pair answers -/
def pairV (a b : Int) : Int := if isD a then if isD b then pr a b else 0 else 0
def pairC (a b : Int) : Int := if isD a then if isD b then 0 else 3 else 3
def pairI (a b : Int) : Int := if isD a then if isD b then 0 else 1 else 0

set_option maxHeartbeats 400000 in
theorem Pair_any (a b : Int) (w : World) :
    Calls Try.prog 12 #[.int .i64 a, .int .i64 b] w fun e w' => e = .returned (.tuple #[.int .i64 (pairV a b), .agg #[.int .i64 (pairC a b), .int .i64 (pairI a b)]]) ∧ Below w.heap.size w w' := by
  have i0 := idx0 a b
  have i1 := idx1 a b
  by_cases ha : isD a = true
  · obtain ⟨a0, a1⟩ := (isD_iff a).1 ha
    by_cases hb : isD b = true
    · have va : pairV a b = pr a b := by simp [pairV, ha, hb]
      have vc : pairC a b = 0 := by simp [pairC, ha, hb]
      have vi : pairI a b = 0 := by simp [pairI, ha, hb]
      rw [va, vc, vi]
      clear va vc vi
      obtain ⟨b0, b1⟩ := (isD_iff b).1 hb
      go_enter Try.func12, Try.ntmps12
      go_wp2
      refine wp_loop_rounds 3 ?_
      rw [rounds_succ]
      go_wp2_with (go_at_call 20; with_reducible refine (is_any _ _).mono ?_; rintro e w1 ⟨rfl, rfl⟩)
      rw [rounds_succ]
      go_wp2_with (go_at_call 20; with_reducible refine (is_any _ _).mono ?_; rintro e w1 ⟨rfl, rfl⟩)
      rw [rounds_succ]
      go_wp2_with (go_at_call 21; with_reducible refine (pair_any _ _ _ a0 a1 b0 b1).mono ?_; rintro e w1 ⟨rfl, hb1⟩; have hB : Blk w1 w.heap.size #[.int .i64 0, .int .i64 0] 24 := (Blk.new w _ _).call hb1; have c0 := hB.cell 0; have c1 := hB.cell 1; have f0 := hB.fr 0; have f1 := hB.fr 1)
      refine bodyPost_ret (v := .tuple #[.int .i64 (pr a b), .agg #[.int .i64 0, .int .i64 0]]) (by simp [results, Try.results12, go_sem, c0, c1]) rfl ?_
      exact ⟨rfl, ((((Below.refl _ _).alloc (Nat.le_refl _) _).trans (hb1.mono (by simp))).setCell (by simp) _).setCell (by simp) _⟩
    · have hb : isD b = false := by simpa using hb
      have va : pairV a b = 0 := by simp [pairV, hb]
      have vc : pairC a b = 3 := by simp [pairC, hb]
      have vi : pairI a b = 1 := by simp [pairI, ha, hb]
      rw [va, vc, vi]
      clear va vc vi
      go_enter Try.func12, Try.ntmps12
      go_wp2
      refine wp_loop_rounds 3 ?_
      rw [rounds_succ]
      go_wp2_with (go_at_call 20; with_reducible refine (is_any _ _).mono ?_; rintro e w1 ⟨rfl, rfl⟩)
      rw [rounds_succ]
      go_wp2_with (go_at_call 20; with_reducible refine (is_any _ _).mono ?_; rintro e w1 ⟨rfl, rfl⟩)
      refine bodyPost_ret (v := .tuple #[.int .i64 0, .agg #[.int .i64 3, .int .i64 1]]) (by simp [results, Try.results12, go_sem]) rfl ?_
      exact ⟨rfl, (Below.refl _ _).alloc (Nat.le_refl _) _⟩
  · have ha : isD a = false := by simpa using ha
    have va : pairV a b = 0 := by simp [pairV, ha]
    have vc : pairC a b = 3 := by simp [pairC, ha]
    have vi : pairI a b = 0 := by simp [pairI, ha]
    rw [va, vc, vi]
    clear va vc vi
    go_enter Try.func12, Try.ntmps12
    go_wp2
    refine wp_loop_rounds 3 ?_
    rw [rounds_succ]
    go_wp2_with (go_at_call 20; with_reducible refine (is_any _ _).mono ?_; rintro e w1 ⟨rfl, rfl⟩)
    refine bodyPost_ret (v := .tuple #[.int .i64 0, .agg #[.int .i64 3, .int .i64 0]]) (by simp [results, Try.results12, go_sem]) rfl ?_
    exact ⟨rfl, (Below.refl _ _).alloc (Nat.le_refl _) _⟩

theorem u8s_nil (w : World) : U8s w (.slice none 0 0) [] := Sl.nil w
theorem dig_nil : dig [] = 1 := rfl
theorem dig_zero : dig [0] = 258 := by decide
theorem pr_zero : pr 0 0 = 7 := by decide

set_option maxHeartbeats 400000 in
theorem closed_any (w : World) :
    Calls Try.prog 10 #[] w fun e w' => e = .returned (.bool true) ∧ Below w.heap.size w w' := by
  go_enter Try.func10, Try.ntmps10
  go_wp2_with fail
  with_reducible refine (of_small _ _ [] (u8s_nil _) (by simp)).mono ?_
  rintro e w1 ⟨rfl, hb1⟩
  rw [dig_nil]
  go_wp2_with fail
  with_reducible refine Calls.mono (of_small _ _ [0] (u8s_one 0 (by simp) rfl) (by simp)) ?_
  rintro e w2 ⟨rfl, hb2⟩
  rw [dig_zero]
  go_wp2_with fail
  with_reducible refine (Pair_any _ _ _).mono ?_
  rintro e w3 ⟨rfl, hb3⟩
  rw [show pairV 0 0 = 7 from by decide, show pairC 0 0 = 0 from by decide, show pairI 0 0 = 0 from by decide]
  have B1 : Blk w3 w1.heap.size #[.int .i64 0, .int .i64 0] 24 := ((((Blk.new w1 _ _).alloc _).call hb2).alloc _).call hb3
  have B2 : Blk w3 w2.heap.size #[.int .i64 0, .int .i64 0] 24 := (Blk.new w2 _ _).call hb3
  have c1 := B1.cell 0
  have c2 := B2.cell 0
  have z1 := B1.lt
  have z2 := B2.lt
  go_wp2
  go_ret
  exact ⟨rfl, (by repeat (first | exact Below.refl _ _ | assumption | apply extAlloc | apply extDrewN | apply extDrew | (refine extStep ?_ (by assumption) (by first | (simp; done) | (simp; omega) | omega)) | (refine extCall ?_ (by assumption)) | (refine extSet ?_ (by first | (simp; done) | (simp; omega) | omega) _)))⟩
end Go.Proofs.Ytkokleicgpimbaa
