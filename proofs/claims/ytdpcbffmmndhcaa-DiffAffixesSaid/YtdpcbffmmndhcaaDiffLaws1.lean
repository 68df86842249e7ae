/- The walks of DiffMetric and DiffCommonLongest. -/
import Derived.Test.YtdpcbffmmndhcaaDiffCommon
namespace Go.Proofs.Ytdpcbffmmndhcaa
open Go.RowKit

theorem distV_bd (a b : List ByteArray) : 0 ≤ distV a b ∧ distV a b ≤ 240 := by
  unfold distV
  split
  · rename_i h
    have h1 := ((bC_good a b).1 h).1.1
    have h2 := ((bC_good a b).1 h).2.1
    omega
  · omega

theorem metric_cases (a b c : List ByteArray) : ¬ bC a b = 0 ∨ (bC a b = 0 ∧ ¬ bC b c = 0) ∨
    (bC a b = 0 ∧ bC b c = 0 ∧ bC a c = 0 ∧ bC b a = 0 ∧ distV a c ≤ distV a b + distV b c ∧ (distV a b == distV b a) = true ∧ ((distV a b == 0) == decide (a = b)) = true) := by
  by_cases h1 : bC a b = 0
  · by_cases h2 : bC b c = 0
    · obtain ⟨ga, gb⟩ := (bC_good _ _).1 h1
      obtain ⟨_, gc⟩ := (bC_good _ _).1 h2
      have h3 : bC a c = 0 := (bC_good _ _).2 ⟨ga, gc⟩
      have h4 : bC b a = 0 := (bC_good _ _).2 ⟨gb, ga⟩
      right; right
      have t1 := lcs_le_l a b
      have t2 := lcs_le_r a b
      have t3 := lcs_le_l b c
      have t4 := lcs_le_r b c
      have t5 := lcs_le_l a c
      have t6 := lcs_le_r a c
      have t7 := lcs_tri a b c
      refine ⟨h1, h2, h3, h4, ?_, ?_, ?_⟩
      · simp only [distV, if_pos h1, if_pos h2, if_pos h3]; omega
      · simp only [distV, if_pos h1, if_pos h4]; rw [lcs_comm b a, Nat.add_comm b.length]; simp
      · simp only [distV, if_pos h1]
        by_cases e : a = b
        · subst e
          rw [lcs_self]
          have : a.length + a.length - 2 * a.length = 0 := by omega
          rw [this]; simp
        · have : ¬ ((a.length + b.length - 2 * lcs a b : Nat) : Int) = 0 := fun h => e (lcs_full a b (by omega) (by omega))
          rw [beq_eq_false_iff_ne.2 this, decide_eq_false e]; rfl
    · exact .inr (.inl ⟨h1, h2⟩)
  · exact .inl h1

set_option maxHeartbeats 1000000 in
theorem law_DiffMetric (w : World) (v0 : Value) (a : List ByteArray) (v1 : Value) (b : List ByteArray) (v2 : Value) (c : List ByteArray) (H0 : Strs w v0 a ∧ a.length * 16 ≤ 140737488351232) (H1 : Strs w v1 b ∧ b.length * 16 ≤ 140737488351232) (H2 : Strs w v2 c ∧ c.length * 16 ≤ 140737488351232) :
    Calls Try.prog 4 #[v0, v1, v2] w fun e w' => e = .returned (.bool true) ∧ Below w.heap.size w w' := by
  obtain ⟨H0, _⟩ := H0
  obtain ⟨H1, _⟩ := H1
  obtain ⟨H2, _⟩ := H2
  replace H0 := Lib.hid H0
  replace H1 := Lib.hid H1
  replace H2 := Lib.hid H2
  have hcs := metric_cases a b c
  have d1 := distV_bd a b
  have d2 := distV_bd b c
  obtain ⟨d1a, d1b⟩ := d1
  obtain ⟨d2a, d2b⟩ := d2
  go_enter Try.func4, Try.ntmps4
  go_wp2_with fail
  with_reducible refine Calls.mono (Distance_any _ _ _ a b H0.out H1.out) ?_
  rintro e w1 ⟨rfl, b1⟩
  have e1 : Below w.heap.size w w1 := (by repeat (first | exact Below.refl _ _ | assumption | apply extAlloc | apply extDrewN | apply extDrew | (refine extStep ?_ (by assumption) (by first | (simp; done) | (simp; omega) | omega)) | (refine extCall ?_ (by assumption)) | (refine extSet ?_ (by first | (simp; done) | (simp; omega) | omega) _)))
  go_wp2_with fail
  with_reducible refine Calls.mono (Distance_any _ _ _ b c (H1.out.mono (by exact (by repeat (first | exact Below.refl _ _ | assumption | apply extAlloc | apply extDrewN | apply extDrew | (refine extStep ?_ (by assumption) (by first | (simp; done) | (simp; omega) | omega)) | (refine extCall ?_ (by assumption)) | (refine extSet ?_ (by first | (simp; done) | (simp; omega) | omega) _))))) (H2.out.mono (by exact (by repeat (first | exact Below.refl _ _ | assumption | apply extAlloc | apply extDrewN | apply extDrew | (refine extStep ?_ (by assumption) (by first | (simp; done) | (simp; omega) | omega)) | (refine extCall ?_ (by assumption)) | (refine extSet ?_ (by first | (simp; done) | (simp; omega) | omega) _)))))) ?_
  rintro e w2 ⟨rfl, b2⟩
  have e2 : Below w.heap.size w w2 := (by repeat (first | exact Below.refl _ _ | assumption | apply extAlloc | apply extDrewN | apply extDrew | (refine extStep ?_ (by assumption) (by first | (simp; done) | (simp; omega) | omega)) | (refine extCall ?_ (by assumption)) | (refine extSet ?_ (by first | (simp; done) | (simp; omega) | omega) _)))
  go_wp2_with fail
  with_reducible refine Calls.mono (Distance_any _ _ _ a c (H0.out.mono (by exact (by repeat (first | exact Below.refl _ _ | assumption | apply extAlloc | apply extDrewN | apply extDrew | (refine extStep ?_ (by assumption) (by first | (simp; done) | (simp; omega) | omega)) | (refine extCall ?_ (by assumption)) | (refine extSet ?_ (by first | (simp; done) | (simp; omega) | omega) _))))) (H2.out.mono (by exact (by repeat (first | exact Below.refl _ _ | assumption | apply extAlloc | apply extDrewN | apply extDrew | (refine extStep ?_ (by assumption) (by first | (simp; done) | (simp; omega) | omega)) | (refine extCall ?_ (by assumption)) | (refine extSet ?_ (by first | (simp; done) | (simp; omega) | omega) _)))))) ?_
  rintro e w3 ⟨rfl, b3⟩
  have e3 : Below w.heap.size w w3 := (by repeat (first | exact Below.refl _ _ | assumption | apply extAlloc | apply extDrewN | apply extDrew | (refine extStep ?_ (by assumption) (by first | (simp; done) | (simp; omega) | omega)) | (refine extCall ?_ (by assumption)) | (refine extSet ?_ (by first | (simp; done) | (simp; omega) | omega) _)))
  go_wp2_with fail
  with_reducible refine Calls.mono (Distance_any _ _ _ b a (H1.out.mono (by exact (by repeat (first | exact Below.refl _ _ | assumption | apply extAlloc | apply extDrewN | apply extDrew | (refine extStep ?_ (by assumption) (by first | (simp; done) | (simp; omega) | omega)) | (refine extCall ?_ (by assumption)) | (refine extSet ?_ (by first | (simp; done) | (simp; omega) | omega) _))))) (H0.out.mono (by exact (by repeat (first | exact Below.refl _ _ | assumption | apply extAlloc | apply extDrewN | apply extDrew | (refine extStep ?_ (by assumption) (by first | (simp; done) | (simp; omega) | omega)) | (refine extCall ?_ (by assumption)) | (refine extSet ?_ (by first | (simp; done) | (simp; omega) | omega) _)))))) ?_
  rintro e w4 ⟨rfl, b4⟩
  have e4 : Below w.heap.size w w4 := (by repeat (first | exact Below.refl _ _ | assumption | apply extAlloc | apply extDrewN | apply extDrew | (refine extStep ?_ (by assumption) (by first | (simp; done) | (simp; omega) | omega)) | (refine extCall ?_ (by assumption)) | (refine extSet ?_ (by first | (simp; done) | (simp; omega) | omega) _)))
  have F1 := ((((((Blk.new w1 #[.int .i64 (bC a b), .int .i64 (bI a b)] 24).call b2).alloc _).call b3).alloc _).call b4)
  have F2 := ((((Blk.new w2 #[.int .i64 (bC b c), .int .i64 (bI b c)] 24).call b3).alloc _).call b4)
  have F3 := ((Blk.new w3 #[.int .i64 (bC a c), .int .i64 (bI a c)] 24).call b4)
  have y1 := F1.lt
  have y2 := F2.lt
  have y3 := F3.lt
  have c1 : w4.cell? ⟨w1.heap.size, 0, none⟩ = some (.int .i64 (bC a b)) := F1.cell 0
  have c2 : w4.cell? ⟨w2.heap.size, 0, none⟩ = some (.int .i64 (bC b c)) := F2.cell 0
  have c3 : w4.cell? ⟨w3.heap.size, 0, none⟩ = some (.int .i64 (bC a c)) := F3.cell 0
  clear b1 b2 b3 b4 e1 e2 e3 F1 F2 F3
  rcases hcs with h | ⟨h, h'⟩ | ⟨h, h', h'', h3, h4, h5, h6⟩
  · have q : (bC a b != 0) = true := by simpa using h
    clear h
    go_wp2_with (go_at_call 17; with_reducible refine Calls.mono (moved_any _) ?_; rintro e w9 ⟨rfl, b9⟩)
    go_ret
    exact ⟨rfl, (by repeat (first | exact Below.refl _ _ | assumption | apply extAlloc | apply extDrewN | apply extDrew | (refine extStep ?_ (by assumption) (by first | (simp; done) | (simp; omega) | omega)) | (refine extCall ?_ (by assumption)) | (refine extSet ?_ (by first | (simp; done) | (simp; omega) | omega) _)))⟩
  · have q : (bC b c != 0) = true := by simpa using h'
    clear h'
    go_wp2_with (go_at_call 17; with_reducible refine Calls.mono (moved_any _) ?_; rintro e w9 ⟨rfl, b9⟩)
    go_ret
    exact ⟨rfl, (by repeat (first | exact Below.refl _ _ | assumption | apply extAlloc | apply extDrewN | apply extDrew | (refine extStep ?_ (by assumption) (by first | (simp; done) | (simp; omega) | omega)) | (refine extCall ?_ (by assumption)) | (refine extSet ?_ (by first | (simp; done) | (simp; omega) | omega) _)))⟩
  · go_wp2_with (first | (go_at_call 18; with_reducible refine Calls.mono (EqStrings_any _ _ _ a b (H0.out.mono (by exact (by repeat (first | exact Below.refl _ _ | assumption | apply extAlloc | apply extDrewN | apply extDrew | (refine extStep ?_ (by assumption) (by first | (simp; done) | (simp; omega) | omega)) | (refine extCall ?_ (by assumption)) | (refine extSet ?_ (by first | (simp; done) | (simp; omega) | omega) _))))) (H1.out.mono (by exact (by repeat (first | exact Below.refl _ _ | assumption | apply extAlloc | apply extDrewN | apply extDrew | (refine extStep ?_ (by assumption) (by first | (simp; done) | (simp; omega) | omega)) | (refine extCall ?_ (by assumption)) | (refine extSet ?_ (by first | (simp; done) | (simp; omega) | omega) _)))))) ?_; rintro e w8 ⟨rfl, b8⟩) | (go_at_call 17; with_reducible refine Calls.mono (moved_any _) ?_; rintro e w9 ⟨rfl, b9⟩))
    go_ret
    exact ⟨rfl, (by repeat (first | exact Below.refl _ _ | assumption | apply extAlloc | apply extDrewN | apply extDrew | (refine extStep ?_ (by assumption) (by first | (simp; done) | (simp; omega) | omega)) | (refine extCall ?_ (by assumption)) | (refine extSet ?_ (by first | (simp; done) | (simp; omega) | omega) _)))⟩

set_option maxHeartbeats 1000000 in
theorem law_DiffCommonLongest (w : World) (v0 : Value) (a : List ByteArray) (v1 : Value) (b : List ByteArray) (v2 : Value) (l : List ByteArray) (H0 : Strs w v0 a ∧ a.length * 16 ≤ 140737488351232) (H1 : Strs w v1 b ∧ b.length * 16 ≤ 140737488351232) (H2 : Strs w v2 l ∧ l.length * 16 ≤ 140737488351232) :
    Calls Try.prog 6 #[v0, v1, v2] w fun e w' => e = .returned (.bool true) ∧ Below w.heap.size w w' := by
  obtain ⟨H0, _⟩ := H0
  obtain ⟨H1, _⟩ := H1
  obtain ⟨H2, _⟩ := H2
  obtain ⟨ao, cap, rfl, h1, h2, h3, h4⟩ := H2.sl
  clear h1 h2 h3 h4
  replace H0 := Lib.hid H0
  replace H1 := Lib.hid H1
  replace H2 := Lib.hid H2
  by_cases hz : bC a b = 0
  · have hV : commV a b = kp a b := if_pos hz
    obtain ⟨s1, s2, s3⟩ := kp_sub a b
    have q1 : decide ((kp a b).Sublist a) = true := decide_eq_true s1
    have q2 : decide ((kp a b).Sublist b) = true := decide_eq_true s2
    have hge := lcs_ge l a b
    replace q1 := Lib.hid q1
    replace q2 := Lib.hid q2
    replace hz := Lib.hid hz
    replace hV := Lib.hid hV
    rw [← s3] at hge
    generalize hK : kp a b = K at q1 q2 hge hV
    clear s1 s2 s3 hK
    replace hge := Lib.hid hge
    go_enter Try.func6, Try.ntmps6
    go_wp2_with fail
    with_reducible refine Calls.mono (Common_any _ _ _ a b H0.out H1.out) ?_
    rintro e w1 ⟨x, rfl, hx, b1⟩
    rw [hz.out]
    rw [hV.out] at hx
    obtain ⟨xo, xcap, rfl, x1, x2, x3, x4⟩ := hx.sl
    clear x1 x2 x3 x4
    replace hx := Lib.hid hx
    have e1 : Below w.heap.size w w1 := (by repeat (first | exact Below.refl _ _ | assumption | apply extAlloc | apply extDrewN | apply extDrew | (refine extStep ?_ (by assumption) (by first | (simp; done) | (simp; omega) | omega)) | (refine extCall ?_ (by assumption)) | (refine extSet ?_ (by first | (simp; done) | (simp; omega) | omega) _)))
    by_cases r1 : l.Sublist a
    · by_cases r2 : l.Sublist b
      · have hle := hge.out r1 r2
        have p1 : Hid (decide (l.Sublist a) = true) := decide_eq_true r1
        have p2 : Hid (decide (l.Sublist b) = true) := decide_eq_true r2
        clear r1 r2 hge
        go_wp2_with (first | (go_at_call 21; (with_reducible refine Calls.mono (within_any _ _ _ K a (hx.out.mono (by exact (by repeat (first | exact Below.refl _ _ | assumption | apply extAlloc | apply extDrewN | apply extDrew | (refine extStep ?_ (by assumption) (by first | (simp; done) | (simp; omega) | omega)) | (refine extCall ?_ (by assumption)) | (refine extSet ?_ (by first | (simp; done) | (simp; omega) | omega) _))))) (H0.out.mono (by exact (by repeat (first | exact Below.refl _ _ | assumption | apply extAlloc | apply extDrewN | apply extDrew | (refine extStep ?_ (by assumption) (by first | (simp; done) | (simp; omega) | omega)) | (refine extCall ?_ (by assumption)) | (refine extSet ?_ (by first | (simp; done) | (simp; omega) | omega) _)))))) ?_); rintro e w2 ⟨rfl, b2⟩; rw [q1.out]) | (go_at_call 21; (with_reducible refine Calls.mono (within_any _ _ _ K b (hx.out.mono (by exact (by repeat (first | exact Below.refl _ _ | assumption | apply extAlloc | apply extDrewN | apply extDrew | (refine extStep ?_ (by assumption) (by first | (simp; done) | (simp; omega) | omega)) | (refine extCall ?_ (by assumption)) | (refine extSet ?_ (by first | (simp; done) | (simp; omega) | omega) _))))) (H1.out.mono (by exact (by repeat (first | exact Below.refl _ _ | assumption | apply extAlloc | apply extDrewN | apply extDrew | (refine extStep ?_ (by assumption) (by first | (simp; done) | (simp; omega) | omega)) | (refine extCall ?_ (by assumption)) | (refine extSet ?_ (by first | (simp; done) | (simp; omega) | omega) _)))))) ?_); rintro e w3 ⟨rfl, b3⟩; rw [q2.out]) | (go_at_call 21; (with_reducible refine Calls.mono (within_any _ _ _ l a (H2.out.mono (by exact (by repeat (first | exact Below.refl _ _ | assumption | apply extAlloc | apply extDrewN | apply extDrew | (refine extStep ?_ (by assumption) (by first | (simp; done) | (simp; omega) | omega)) | (refine extCall ?_ (by assumption)) | (refine extSet ?_ (by first | (simp; done) | (simp; omega) | omega) _))))) (H0.out.mono (by exact (by repeat (first | exact Below.refl _ _ | assumption | apply extAlloc | apply extDrewN | apply extDrew | (refine extStep ?_ (by assumption) (by first | (simp; done) | (simp; omega) | omega)) | (refine extCall ?_ (by assumption)) | (refine extSet ?_ (by first | (simp; done) | (simp; omega) | omega) _)))))) ?_); rintro e w4 ⟨rfl, b4⟩; rw [p1.out]) | (go_at_call 21; (with_reducible refine Calls.mono (within_any _ _ _ l b (H2.out.mono (by exact (by repeat (first | exact Below.refl _ _ | assumption | apply extAlloc | apply extDrewN | apply extDrew | (refine extStep ?_ (by assumption) (by first | (simp; done) | (simp; omega) | omega)) | (refine extCall ?_ (by assumption)) | (refine extSet ?_ (by first | (simp; done) | (simp; omega) | omega) _))))) (H1.out.mono (by exact (by repeat (first | exact Below.refl _ _ | assumption | apply extAlloc | apply extDrewN | apply extDrew | (refine extStep ?_ (by assumption) (by first | (simp; done) | (simp; omega) | omega)) | (refine extCall ?_ (by assumption)) | (refine extSet ?_ (by first | (simp; done) | (simp; omega) | omega) _)))))) ?_); rintro e w5 ⟨rfl, b5⟩; rw [p2.out]) | (go_at_call 17; with_reducible refine Calls.mono (moved_any _) ?_; rintro e w9 ⟨rfl, b9⟩))
        go_ret
        exact ⟨rfl, (by repeat (first | exact Below.refl _ _ | assumption | apply extAlloc | apply extDrewN | apply extDrew | (refine extStep ?_ (by assumption) (by first | (simp; done) | (simp; omega) | omega)) | (refine extCall ?_ (by assumption)) | (refine extSet ?_ (by first | (simp; done) | (simp; omega) | omega) _)))⟩
      · have p1 : Hid (decide (l.Sublist a) = true) := decide_eq_true r1
        have p2 : Hid (decide (l.Sublist b) = false) := decide_eq_false r2
        clear r1 r2 hge
        go_wp2_with (first | (go_at_call 21; (with_reducible refine Calls.mono (within_any _ _ _ K a (hx.out.mono (by exact (by repeat (first | exact Below.refl _ _ | assumption | apply extAlloc | apply extDrewN | apply extDrew | (refine extStep ?_ (by assumption) (by first | (simp; done) | (simp; omega) | omega)) | (refine extCall ?_ (by assumption)) | (refine extSet ?_ (by first | (simp; done) | (simp; omega) | omega) _))))) (H0.out.mono (by exact (by repeat (first | exact Below.refl _ _ | assumption | apply extAlloc | apply extDrewN | apply extDrew | (refine extStep ?_ (by assumption) (by first | (simp; done) | (simp; omega) | omega)) | (refine extCall ?_ (by assumption)) | (refine extSet ?_ (by first | (simp; done) | (simp; omega) | omega) _)))))) ?_); rintro e w2 ⟨rfl, b2⟩; rw [q1.out]) | (go_at_call 21; (with_reducible refine Calls.mono (within_any _ _ _ K b (hx.out.mono (by exact (by repeat (first | exact Below.refl _ _ | assumption | apply extAlloc | apply extDrewN | apply extDrew | (refine extStep ?_ (by assumption) (by first | (simp; done) | (simp; omega) | omega)) | (refine extCall ?_ (by assumption)) | (refine extSet ?_ (by first | (simp; done) | (simp; omega) | omega) _))))) (H1.out.mono (by exact (by repeat (first | exact Below.refl _ _ | assumption | apply extAlloc | apply extDrewN | apply extDrew | (refine extStep ?_ (by assumption) (by first | (simp; done) | (simp; omega) | omega)) | (refine extCall ?_ (by assumption)) | (refine extSet ?_ (by first | (simp; done) | (simp; omega) | omega) _)))))) ?_); rintro e w3 ⟨rfl, b3⟩; rw [q2.out]) | (go_at_call 21; (with_reducible refine Calls.mono (within_any _ _ _ l a (H2.out.mono (by exact (by repeat (first | exact Below.refl _ _ | assumption | apply extAlloc | apply extDrewN | apply extDrew | (refine extStep ?_ (by assumption) (by first | (simp; done) | (simp; omega) | omega)) | (refine extCall ?_ (by assumption)) | (refine extSet ?_ (by first | (simp; done) | (simp; omega) | omega) _))))) (H0.out.mono (by exact (by repeat (first | exact Below.refl _ _ | assumption | apply extAlloc | apply extDrewN | apply extDrew | (refine extStep ?_ (by assumption) (by first | (simp; done) | (simp; omega) | omega)) | (refine extCall ?_ (by assumption)) | (refine extSet ?_ (by first | (simp; done) | (simp; omega) | omega) _)))))) ?_); rintro e w4 ⟨rfl, b4⟩; rw [p1.out]) | (go_at_call 21; (with_reducible refine Calls.mono (within_any _ _ _ l b (H2.out.mono (by exact (by repeat (first | exact Below.refl _ _ | assumption | apply extAlloc | apply extDrewN | apply extDrew | (refine extStep ?_ (by assumption) (by first | (simp; done) | (simp; omega) | omega)) | (refine extCall ?_ (by assumption)) | (refine extSet ?_ (by first | (simp; done) | (simp; omega) | omega) _))))) (H1.out.mono (by exact (by repeat (first | exact Below.refl _ _ | assumption | apply extAlloc | apply extDrewN | apply extDrew | (refine extStep ?_ (by assumption) (by first | (simp; done) | (simp; omega) | omega)) | (refine extCall ?_ (by assumption)) | (refine extSet ?_ (by first | (simp; done) | (simp; omega) | omega) _)))))) ?_); rintro e w5 ⟨rfl, b5⟩; rw [p2.out]) | (go_at_call 17; with_reducible refine Calls.mono (moved_any _) ?_; rintro e w9 ⟨rfl, b9⟩))
        go_ret
        exact ⟨rfl, (by repeat (first | exact Below.refl _ _ | assumption | apply extAlloc | apply extDrewN | apply extDrew | (refine extStep ?_ (by assumption) (by first | (simp; done) | (simp; omega) | omega)) | (refine extCall ?_ (by assumption)) | (refine extSet ?_ (by first | (simp; done) | (simp; omega) | omega) _)))⟩
    · have p1 : Hid (decide (l.Sublist a) = false) := decide_eq_false r1
      have p2 : Hid (decide (l.Sublist b) = decide (l.Sublist b)) := rfl
      clear r1 hge
      go_wp2_with (first | (go_at_call 21; (with_reducible refine Calls.mono (within_any _ _ _ K a (hx.out.mono (by exact (by repeat (first | exact Below.refl _ _ | assumption | apply extAlloc | apply extDrewN | apply extDrew | (refine extStep ?_ (by assumption) (by first | (simp; done) | (simp; omega) | omega)) | (refine extCall ?_ (by assumption)) | (refine extSet ?_ (by first | (simp; done) | (simp; omega) | omega) _))))) (H0.out.mono (by exact (by repeat (first | exact Below.refl _ _ | assumption | apply extAlloc | apply extDrewN | apply extDrew | (refine extStep ?_ (by assumption) (by first | (simp; done) | (simp; omega) | omega)) | (refine extCall ?_ (by assumption)) | (refine extSet ?_ (by first | (simp; done) | (simp; omega) | omega) _)))))) ?_); rintro e w2 ⟨rfl, b2⟩; rw [q1.out]) | (go_at_call 21; (with_reducible refine Calls.mono (within_any _ _ _ K b (hx.out.mono (by exact (by repeat (first | exact Below.refl _ _ | assumption | apply extAlloc | apply extDrewN | apply extDrew | (refine extStep ?_ (by assumption) (by first | (simp; done) | (simp; omega) | omega)) | (refine extCall ?_ (by assumption)) | (refine extSet ?_ (by first | (simp; done) | (simp; omega) | omega) _))))) (H1.out.mono (by exact (by repeat (first | exact Below.refl _ _ | assumption | apply extAlloc | apply extDrewN | apply extDrew | (refine extStep ?_ (by assumption) (by first | (simp; done) | (simp; omega) | omega)) | (refine extCall ?_ (by assumption)) | (refine extSet ?_ (by first | (simp; done) | (simp; omega) | omega) _)))))) ?_); rintro e w3 ⟨rfl, b3⟩; rw [q2.out]) | (go_at_call 21; (with_reducible refine Calls.mono (within_any _ _ _ l a (H2.out.mono (by exact (by repeat (first | exact Below.refl _ _ | assumption | apply extAlloc | apply extDrewN | apply extDrew | (refine extStep ?_ (by assumption) (by first | (simp; done) | (simp; omega) | omega)) | (refine extCall ?_ (by assumption)) | (refine extSet ?_ (by first | (simp; done) | (simp; omega) | omega) _))))) (H0.out.mono (by exact (by repeat (first | exact Below.refl _ _ | assumption | apply extAlloc | apply extDrewN | apply extDrew | (refine extStep ?_ (by assumption) (by first | (simp; done) | (simp; omega) | omega)) | (refine extCall ?_ (by assumption)) | (refine extSet ?_ (by first | (simp; done) | (simp; omega) | omega) _)))))) ?_); rintro e w4 ⟨rfl, b4⟩; rw [p1.out]) | (go_at_call 21; (with_reducible refine Calls.mono (within_any _ _ _ l b (H2.out.mono (by exact (by repeat (first | exact Below.refl _ _ | assumption | apply extAlloc | apply extDrewN | apply extDrew | (refine extStep ?_ (by assumption) (by first | (simp; done) | (simp; omega) | omega)) | (refine extCall ?_ (by assumption)) | (refine extSet ?_ (by first | (simp; done) | (simp; omega) | omega) _))))) (H1.out.mono (by exact (by repeat (first | exact Below.refl _ _ | assumption | apply extAlloc | apply extDrewN | apply extDrew | (refine extStep ?_ (by assumption) (by first | (simp; done) | (simp; omega) | omega)) | (refine extCall ?_ (by assumption)) | (refine extSet ?_ (by first | (simp; done) | (simp; omega) | omega) _)))))) ?_); rintro e w5 ⟨rfl, b5⟩; rw [p2.out]) | (go_at_call 17; with_reducible refine Calls.mono (moved_any _) ?_; rintro e w9 ⟨rfl, b9⟩))
      go_ret
      exact ⟨rfl, (by repeat (first | exact Below.refl _ _ | assumption | apply extAlloc | apply extDrewN | apply extDrew | (refine extStep ?_ (by assumption) (by first | (simp; done) | (simp; omega) | omega)) | (refine extCall ?_ (by assumption)) | (refine extSet ?_ (by first | (simp; done) | (simp; omega) | omega) _)))⟩
  · have q : (bC a b != 0) = true := by simpa using hz
    replace hz := Lib.hid hz
    go_enter Try.func6, Try.ntmps6
    go_wp2_with fail
    with_reducible refine Calls.mono (Common_any _ _ _ a b H0.out H1.out) ?_
    rintro e w1 ⟨x, rfl, hx, b1⟩
    replace hx := Lib.hid hx
    go_wp2_with (go_at_call 17; with_reducible refine Calls.mono (moved_any _) ?_; rintro e w9 ⟨rfl, b9⟩)
    go_ret
    exact ⟨rfl, (by repeat (first | exact Below.refl _ _ | assumption | apply extAlloc | apply extDrewN | apply extDrew | (refine extStep ?_ (by assumption) (by first | (simp; done) | (simp; omega) | omega)) | (refine extCall ?_ (by assumption)) | (refine extSet ?_ (by first | (simp; done) | (simp; omega) | omega) _)))⟩
end Go.Proofs.Ytdpcbffmmndhcaa
