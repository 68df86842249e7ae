/- The walk of DiffAffixes. -/
import Derived.Test.YtdpcbffmmndhcaaAffWalks
import Derived.Test.YtdpcbffmmndhcaaDiffLaws1
namespace Go.Proofs.Ytdpcbffmmndhcaa
open Go.RowKit

theorem Good.sub {a l : List ByteArray} (g : Good a) (h : l.Sublist a) : Good l :=
  ⟨Nat.le_trans h.length_le g.1, fun s hs => g.2 s (h.subset hs)⟩

theorem aff_dist (a b : List ByteArray) (p s : Nat) (h : IsAff a b p s) (ga : Good a) (gb : Good b) :
    bC ((a.take (a.length - s)).drop p) ((b.take (b.length - s)).drop p) = 0 ∧ distV ((a.take (a.length - s)).drop p) ((b.take (b.length - s)).drop p) = distV a b ∧ bI ((a.take (a.length - s)).drop p) ((b.take (b.length - s)).drop p) = 0 := by
  have s1 : Good ((a.take (a.length - s)).drop p) := ga.sub ((List.drop_sublist _ _).trans (List.take_sublist _ _))
  have s2 : Good ((b.take (b.length - s)).drop p) := gb.sub ((List.drop_sublist _ _).trans (List.take_sublist _ _))
  have hz : bC a b = 0 := (bC_good _ _).2 ⟨ga, gb⟩
  have hz' : bC ((a.take (a.length - s)).drop p) ((b.take (b.length - s)).drop p) = 0 := (bC_good _ _).2 ⟨s1, s2⟩
  refine ⟨hz', ?_, bI_good _ _ s1 s2⟩
  obtain ⟨l1, l2, x, m, n, y, e1, e2, e3, e4⟩ := h.parts
  rw [← e3, ← e4] at hz' ⊢
  simp only [distV, if_pos hz, if_pos hz']
  rw [e1, e2, lcs_pre, lcs_suf]
  simp only [List.length_append]
  congr 1
  omega

theorem run_part (ao : Option Addr) (len cap l h : Nat) (h1 : l ≤ h) (h2 : h ≤ cap) (w : World) :
    (Instr.sliceAt 22 (.slice ao len cap) (some (.int .i64 (l : Int))) (some (.int .i64 (h : Int))) none).run Try.prog w = .ok (.slice (if cap = l then ao else ao.map (·.add (l * 1))) (h - l) (cap - l)) w := by
  have h1' : (l : Int) ≤ (h : Int) := by omega
  have h2' : (h : Int) ≤ (cap : Int) := by omega
  have h0 : (0 : Int) ≤ (l : Int) := by omega
  rw [run_sliceAt_slice (h := by kernel_rfl), run_slice_lh (ht := by kernel_rfl) (h0 := h0) (h1 := h1') (h2 := h2')]
  go_simp

set_option maxHeartbeats 6000000 in
theorem law_DiffAffixes (w : World) (v0 : Value) (a : List ByteArray) (v1 : Value) (b : List ByteArray) (H0 : Strs w v0 a ∧ a.length * 16 ≤ 140737488351232) (H1 : Strs w v1 b ∧ b.length * 16 ≤ 140737488351232) :
    Calls Try.prog 5 #[v0, v1] w fun e w' => e = .returned (.bool true) ∧ Below w.heap.size w w' := by
  obtain ⟨H0, _⟩ := H0
  obtain ⟨H1, _⟩ := H1
  by_cases hz : bC a b = 0
  · obtain ⟨ga, gb⟩ := (bC_good a b).1 hz
    have la := ga.1
    have lb := gb.1
    have hI := bI_good a b ga gb
    have hd := fun p s h => Lib.hid (aff_dist a b p s h ga gb)
    replace ga := Lib.hid ga
    replace gb := Lib.hid gb
    have hbd := distV_bd a b
    obtain ⟨hb0, hb1⟩ := hbd
    obtain ⟨ao, cap, rfl, h1, h2, h3, h4⟩ := H0.sl
    obtain ⟨bo, cap', rfl, k1, k2, k3, k4⟩ := H1.sl
    rw [maxLen_eq] at h2 k2
    clear h3 h4 k3 k4
    replace H0 := Lib.hid H0
    replace H1 := Lib.hid H1
    replace hz := Lib.hid hz
    replace hI := Lib.hid hI
    go_enter Try.func5, Try.ntmps5
    go_wp2_with fail
    with_reducible refine Calls.mono (LinCommon_good _ _ _ a b H0.out H1.out ga.out gb.out) ?_
    rintro e w1 ⟨p, s, hps, rfl, b1⟩
    have hq := hd p s hps
    have l1 := hps.parts.1
    have l2 := hps.parts.2.1
    replace hps := Lib.hid hps
    have e1 : Below w.heap.size w w1 := (by repeat (first | exact Below.refl _ _ | assumption | apply extAlloc | apply extDrewN | apply extDrew | (refine extStep ?_ (by assumption) (by first | (simp; done) | (simp; omega) | omega)) | (refine extCall ?_ (by assumption)) | (refine extSet ?_ (by first | (simp; done) | (simp; omega) | omega) _)))
    obtain ⟨na, hna⟩ : ∃ n : Nat, (a.length : Int) - s = n := ⟨a.length - s, by omega⟩
    obtain ⟨nb, hnb⟩ : ∃ n : Nat, (b.length : Int) - s = n := ⟨b.length - s, by omega⟩
    have na1 : na ≤ a.length := by omega
    have nb1 : nb ≤ b.length := by omega
    have na2 : p ≤ na := by omega
    have nb2 : p ≤ nb := by omega
    have na3 : na ≤ cap := by omega
    have nb3 : nb ≤ cap' := by omega
    have sA := strs_part (l := p) (h := na) H0.out na2 na1
    have sB := strs_part (l := p) (h := nb) H1.out nb2 nb1
    rw [show a.length - s = na by omega, show b.length - s = nb by omega] at hq
    generalize List.drop p (List.take na a) = A at sA hq
    generalize List.drop p (List.take nb b) = B at sB hq
    have nl1 : ¬ ((a.length : Int) < (p : Int) + s) := by omega
    have nl2 : ¬ ((b.length : Int) < (p : Int) + s) := by omega
    have hwa : IntKind.i64.wrap (na : Int) = (na : Int) := IntWalk.i64_in _ (by omega)
    have hwb : IntKind.i64.wrap (nb : Int) = (nb : Int) := IntWalk.i64_in _ (by omega)
    replace sA := Lib.hid sA
    replace sB := Lib.hid sB
    clear hd
    go_upto_region 5 with (first | (go_at_call 16; with_reducible refine Calls.mono (Distance_any _ _ _ a b (H0.out.mono (by exact (by repeat (first | exact Below.refl _ _ | assumption | apply extAlloc | apply extDrewN | apply extDrew | (refine extStep ?_ (by assumption) (by first | (simp; done) | (simp; omega) | omega)) | (refine extCall ?_ (by assumption)) | (refine extSet ?_ (by first | (simp; done) | (simp; omega) | omega) _))))) (H1.out.mono (by exact (by repeat (first | exact Below.refl _ _ | assumption | apply extAlloc | apply extDrewN | apply extDrew | (refine extStep ?_ (by assumption) (by first | (simp; done) | (simp; omega) | omega)) | (refine extCall ?_ (by assumption)) | (refine extSet ?_ (by first | (simp; done) | (simp; omega) | omega) _)))))) ?_; rintro e w2 ⟨rfl, b2⟩; rw [hz.out, hI.out]))
    have e2 : Below w.heap.size w w2 := (by repeat (first | exact Below.refl _ _ | assumption | apply extAlloc | apply extDrewN | apply extDrew | (refine extStep ?_ (by assumption) (by first | (simp; done) | (simp; omega) | omega)) | (refine extCall ?_ (by assumption)) | (refine extSet ?_ (by first | (simp; done) | (simp; omega) | omega) _)))
    have F0 := ((Blk.new w1 #[.int .i64 0, .int .i64 0] 24).call b2)
    have F1 := Blk.new w2 #[.int .i64 0, .int .i64 0] 24
    go_cut [0, 1, 10, 11] from 12 to 68 (fun _ _ x y wx => ∃ nb, x = .int .i64 (distV a b) ∧ y = .pointer (some ⟨nb, 0, none⟩) ∧ Blk wx nb #[.int .i64 0, .int .i64 0] 24 ∧ Below (w2.alloc (.cells #[.int .i64 0, .int .i64 0] 24)).heap.size (w2.alloc (.cells #[.int .i64 0, .int .i64 0] 24)) wx)
    case first =>
      have sA2 := sA.out.mono e2
      have sB2 := sB.out.mono e2
      simp only [Nat.mul_one] at sA2 sB2
      by_cases c1 : cap = p <;> by_cases c2 : cap' = p
      all_goals
        first | rw [if_pos c1] at sA2 | rw [if_neg c1] at sA2
        first | rw [if_pos c2] at sB2 | rw [if_neg c2] at sB2
        try (have na4 := na3; rw [c1] at na4; rw [Nat.sub_eq_zero_of_le na4] at sA2)
        try (have nb4 := nb3; rw [c2] at nb4; rw [Nat.sub_eq_zero_of_le nb4] at sB2)
        try rw [c1, Nat.sub_self] at sA2
        try rw [c2, Nat.sub_self] at sB2
        replace sA2 := Lib.hid sA2
        replace sB2 := Lib.hid sB2
        go_region_with (go_at_call 16; with_reducible refine Calls.mono (Distance_any _ _ _ A B (sA2.out.mono (by exact (by repeat (first | exact Below.refl _ _ | assumption | apply extAlloc | apply extDrewN | apply extDrew | (refine extStep ?_ (by assumption) (by first | (simp; done) | (simp; omega) | omega)) | (refine extCall ?_ (by assumption)) | (refine extSet ?_ (by first | (simp; done) | (simp; omega) | omega) _))))) (sB2.out.mono (by exact (by repeat (first | exact Below.refl _ _ | assumption | apply extAlloc | apply extDrewN | apply extDrew | (refine extStep ?_ (by assumption) (by first | (simp; done) | (simp; omega) | omega)) | (refine extCall ?_ (by assumption)) | (refine extSet ?_ (by first | (simp; done) | (simp; omega) | omega) _)))))) ?_; rintro e w3 ⟨rfl, b3⟩; rw [hq.out.1, hq.out.2.1, hq.out.2.2]; (first | (have F2 := (Blk.new (w2.alloc (.cells #[.int .i64 0, .int .i64 0] 24)) #[.int .i64 0, .int .i64 0] 24).drew.call b3; have x0 : w3.cell? ⟨w2.heap.size + 1, 0, none⟩ = some (.int .i64 0) := (by simpa using F2.cell 0); have x1 : w3.cell? ⟨w2.heap.size + 1, 1, none⟩ = some (.int .i64 0) := (by simpa using F2.cell 1); have f0 : w3.frozen? ⟨w2.heap.size + 1, 0, none⟩ = false := (by simpa using F2.fr 0); have f1 : w3.frozen? ⟨w2.heap.size + 1, 1, none⟩ = false := (by simpa using F2.fr 1)) | skip))
      all_goals
        go_wp2_with fail
        go_meet
        first
          | exact ⟨_, rfl, rfl, Blk.new _ _ _, (by repeat (first | exact Below.refl _ _ | assumption | apply extAlloc | apply extDrewN | apply extDrew | (refine extStep ?_ (by assumption) (by first | (simp; done) | (simp; omega) | omega)) | (refine extCall ?_ (by assumption)) | (refine extSet ?_ (by first | (simp; done) | (simp; omega) | omega) _)))⟩
          | (have hs : (w2.alloc (.cells #[.int .i64 0, .int .i64 0] 24)).heap.size = w2.heap.size + 1 := by simp
             rw [hs] at F2
             exact ⟨_, rfl, rfl, (F2.set 0 _).set 1 _, (by repeat (first | exact Below.refl _ _ | assumption | apply extAlloc | apply extDrewN | apply extDrew | (refine extStep ?_ (by assumption) (by first | (simp; done) | (simp; omega) | omega)) | (refine extCall ?_ (by assumption)) | (refine extSet ?_ (by first | (simp; done) | (simp; omega) | omega) _)))⟩)
    case rest =>
      obtain ⟨nx, rfl, rfl, F2, b3⟩ := hcut
      have F3 := F1.call b3
      have c0 := F2.cell 0
      have c1 := F3.cell 0
      have y0 := F2.lt
      go_wp2_with (go_at_call 17; with_reducible refine Calls.mono (moved_any _) ?_; rintro e w9 ⟨rfl, b9⟩)
      go_ret
      exact ⟨rfl, (by repeat (first | exact Below.refl _ _ | assumption | apply extAlloc | apply extDrewN | apply extDrew | (refine extStep ?_ (by assumption) (by first | (simp; done) | (simp; omega) | omega)) | (refine extCall ?_ (by assumption)) | (refine extSet ?_ (by first | (simp; done) | (simp; omega) | omega) _)))⟩
  · have q : (bC a b != 0) = true := by simpa using hz
    replace H0 := Lib.hid H0
    replace H1 := Lib.hid H1
    replace hz := Lib.hid hz
    go_enter Try.func5, Try.ntmps5
    go_wp2_with fail
    with_reducible refine Calls.mono (LinCommon_bad _ _ _ a b H0.out H1.out hz.out) ?_
    rintro e w1 ⟨rfl, b1⟩
    go_wp2_with (go_at_call 17; with_reducible refine Calls.mono (moved_any _) ?_; rintro e w9 ⟨rfl, b9⟩)
    go_ret
    exact ⟨rfl, (by repeat (first | exact Below.refl _ _ | assumption | apply extAlloc | apply extDrewN | apply extDrew | (refine extStep ?_ (by assumption) (by first | (simp; done) | (simp; omega) | omega)) | (refine extCall ?_ (by assumption)) | (refine extSet ?_ (by first | (simp; done) | (simp; omega) | omega) _)))⟩
end Go.Proofs.Ytdpcbffmmndhcaa
