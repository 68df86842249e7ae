/- Digests: the walk of DigestMatchesSpec. -/
import Derived.Test.YtkokleicgpimbaaDigLaws2
import Derived.Test.YtkokleicgpimbaaDigRef
import Derived.Deep.DeepCutAuto
namespace Go.Proofs.Ytkokleicgpimbaa
open Go.RowKit

theorem pair_cases (a b : Int) : (isD a = false ∧ pairC a b = 3 ∧ pairI a b = 0 ∧ pairV a b = 0) ∨ (isD a = true ∧ isD b = false ∧ pairC a b = 3 ∧ pairI a b = 1 ∧ pairV a b = 0) ∨ (isD a = true ∧ isD b = true ∧ pairC a b = 0 ∧ pairI a b = 0 ∧ pairV a b = pr a b) := by
  unfold pairC pairI pairV
  cases h1 : isD a <;> cases h2 : isD b <;> simp

theorem of_cases (l : List UInt8) : (l.length ≤ 4096 ∧ ofC l = 0 ∧ ofV l = dig l) ∨ (4096 < l.length ∧ ofC l = 2 ∧ ofV l = 0) := by
  unfold ofC ofV
  by_cases h : l.length ≤ 4096
  · simp [h]
  · simp [h]; omega

set_option maxRecDepth 100000 in
set_option maxHeartbeats 2000000 in
theorem law_DigestMatchesSpec (w : World) (v0 : Value) (l0 : List UInt8) (a b : Int) (v3 : Value) (l3 : List ByteArray) (H0 : U8s w v0 l0 ∧ l0.length ≤ 140737488351232) (_ha : (Lit.int .i64 a).wf = true) (_hb : (Lit.int .i64 b).wf = true) (H3 : Strs w v3 l3 ∧ l3.length * 16 ≤ 140737488351232) :
    Calls Try.prog 7 #[v0, .int .i64 a, .int .i64 b, v3] w fun e w' => e = .returned (.bool true) ∧ Below w.heap.size w w' := by
  obtain ⟨H0, B0⟩ := H0
  obtain ⟨H3, B3⟩ := H3
  obtain ⟨ao, cap, rfl, h1, h2, h3, h4⟩ := H0.sl
  clear h3 h4
  replace H0 := Lib.hid H0
  replace H3 := Lib.hid H3
  go_enter Try.func7, Try.ntmps7
  go_upto_if 24 with (go_at_call 9; with_reducible refine Calls.mono (of_any _ _ l0 H0.out) ?_; rintro e w1 ⟨rfl, b1⟩)
  have e1 : Below w.heap.size w w1 := (by repeat (first | exact Below.refl _ _ | assumption | apply extAlloc | apply extDrewN | apply extDrew | (refine extStep ?_ (by assumption) (by first | (simp; done) | (simp; omega) | omega)) | (refine extCall ?_ (by assumption)) | (refine extSet ?_ (by first | (simp; done) | (simp; omega) | omega) _)))
  go_cut [9, 10] from 17 to 97 (fun _ _ wx => Below w.heap.size w wx)
  case first =>
    rcases of_cases l0 with ⟨k1, k2, k3⟩ | ⟨k1, k2, k3⟩
    · go_wp2_with fail
      with_reducible refine Calls.mono (RefOf_any _ _ l0 (H0.out.mono (by exact (by repeat (first | exact Below.refl _ _ | assumption | apply extAlloc | apply extDrewN | apply extDrew | (refine extStep ?_ (by assumption) (by first | (simp; done) | (simp; omega) | omega)) | (refine extCall ?_ (by assumption)) | (refine extSet ?_ (by first | (simp; done) | (simp; omega) | omega) _)))))) ?_
      rintro e w2 ⟨rfl, b2⟩
      go_wp2_with fail
      go_meet
      exact (by repeat (first | exact Below.refl _ _ | assumption | apply extAlloc | apply extDrewN | apply extDrew | (refine extStep ?_ (by assumption) (by first | (simp; done) | (simp; omega) | omega)) | (refine extCall ?_ (by assumption)) | (refine extSet ?_ (by first | (simp; done) | (simp; omega) | omega) _)))
    · go_wp2_with fail
      go_region_with (go_at_call 13; with_reducible refine Calls.mono (At_any _ _ _) ?_; rintro e w2 ⟨rfl, b2⟩; have z2 := b2.size; (try simp at z2); have B2 := ((Blk.new w1 _ _).drew).call b2; have x0 := B2.cell 0; have x1 := B2.cell 1)
      all_goals
        go_wp2_with fail
        go_meet
        exact (by repeat (first | exact Below.refl _ _ | assumption | apply extAlloc | apply extDrewN | apply extDrew | (refine extStep ?_ (by assumption) (by first | (simp; done) | (simp; omega) | omega)) | (refine extCall ?_ (by assumption)) | (refine extSet ?_ (by first | (simp; done) | (simp; omega) | omega) _)))
  case rest =>
    go_upto_if 49 with (first | (go_at_call 12; with_reducible refine Calls.mono (Pair_any _ _ _) ?_; rintro e w3 ⟨rfl, b3⟩) | (go_at_call 15; with_reducible refine Calls.mono (RefIs_any _ _) ?_; rintro e w4 ⟨rfl, rfl⟩; generalize hda : isD a = da; replace hda := Lib.hid hda))
    have e3 : Below w.heap.size w w3 := (by repeat (first | exact Below.refl _ _ | assumption | apply extAlloc | apply extDrewN | apply extDrew | (refine extStep ?_ (by assumption) (by first | (simp; done) | (simp; omega) | omega)) | (refine extCall ?_ (by assumption)) | (refine extSet ?_ (by first | (simp; done) | (simp; omega) | omega) _)))
    go_cut [11, 12] from 41 to 97 (fun _ _ wx => Below w.heap.size w wx)
    case first =>
      rcases pair_cases a b with ⟨k1, k2, k3, k4⟩ | ⟨k1, k2, k3, k4, k5⟩ | ⟨k1, k2, k3, k4, k5⟩
      · obtain rfl := k1.symm.trans hda.out
        go_wp2_with fail
        go_region_with (go_at_call 13; with_reducible refine Calls.mono (At_any _ _ _) ?_; rintro e w5 ⟨rfl, b5⟩; have z5 := b5.size; (try simp at z5); have B5 := ((Blk.new w3 _ _).drew).call b5; have c0 := B5.cell 0; have c1 := B5.cell 1)
        all_goals
          go_wp2_with fail
          go_meet
          exact (by repeat (first | exact Below.refl _ _ | assumption | apply extAlloc | apply extDrewN | apply extDrew | (refine extStep ?_ (by assumption) (by first | (simp; done) | (simp; omega) | omega)) | (refine extCall ?_ (by assumption)) | (refine extSet ?_ (by first | (simp; done) | (simp; omega) | omega) _)))
      · obtain rfl := k1.symm.trans hda.out
        go_wp2_with (go_at_call 15; with_reducible refine Calls.mono (RefIs_any _ _) ?_; rintro e w4 ⟨rfl, rfl⟩)
        go_region_with (go_at_call 13; with_reducible refine Calls.mono (At_any _ _ _) ?_; rintro e w5 ⟨rfl, b5⟩; have z5 := b5.size; (try simp at z5); have B5 := ((Blk.new w3 _ _).drew).call b5; have c0 := B5.cell 0; have c1 := B5.cell 1)
        all_goals
          go_wp2_with fail
          go_meet
          exact (by repeat (first | exact Below.refl _ _ | assumption | apply extAlloc | apply extDrewN | apply extDrew | (refine extStep ?_ (by assumption) (by first | (simp; done) | (simp; omega) | omega)) | (refine extCall ?_ (by assumption)) | (refine extSet ?_ (by first | (simp; done) | (simp; omega) | omega) _)))
      · obtain ⟨a0, a1⟩ := (isD_iff a).1 k1
        obtain ⟨c0, c1⟩ := (isD_iff b).1 k2
        obtain rfl := k1.symm.trans hda.out
        go_wp2_with (first | (go_at_call 15; with_reducible refine Calls.mono (RefIs_any _ _) ?_; rintro e w4 ⟨rfl, rfl⟩) | (go_at_call 16; with_reducible refine Calls.mono (RefPair_any _ _ _ a0 a1 c0 c1) ?_; rintro e w5 ⟨rfl, rfl⟩) | fail)
        go_meet
        exact (by repeat (first | exact Below.refl _ _ | assumption | apply extAlloc | apply extDrewN | apply extDrew | (refine extStep ?_ (by assumption) (by first | (simp; done) | (simp; omega) | omega)) | (refine extCall ?_ (by assumption)) | (refine extSet ?_ (by first | (simp; done) | (simp; omega) | omega) _)))
    case rest =>
      go_wp2_with fail
      with_reducible refine Calls.mono (Strings_any _ _ l3 (H3.out.mono (by exact (by repeat (first | exact Below.refl _ _ | assumption | apply extAlloc | apply extDrewN | apply extDrew | (refine extStep ?_ (by assumption) (by first | (simp; done) | (simp; omega) | omega)) | (refine extCall ?_ (by assumption)) | (refine extSet ?_ (by first | (simp; done) | (simp; omega) | omega) _)))))) ?_
      rintro e w6 ⟨rfl, b6⟩
      have z6 := b6.size
      try simp at z6
      have e6 : Below w.heap.size w w6 := (by repeat (first | exact Below.refl _ _ | assumption | apply extAlloc | apply extDrewN | apply extDrew | (refine extStep ?_ (by assumption) (by first | (simp; done) | (simp; omega) | omega)) | (refine extCall ?_ (by assumption)) | (refine extSet ?_ (by first | (simp; done) | (simp; omega) | omega) _)))
      go_wp2_with fail
      with_reducible refine Calls.mono (RefStrings_any _ _ l3 (H3.out.mono (by exact (by repeat (first | exact Below.refl _ _ | assumption | apply extAlloc | apply extDrewN | apply extDrew | (refine extStep ?_ (by assumption) (by first | (simp; done) | (simp; omega) | omega)) | (refine extCall ?_ (by assumption)) | (refine extSet ?_ (by first | (simp; done) | (simp; omega) | omega) _)))))) ?_
      rintro e w7 ⟨rfl, b7⟩
      have z7 := b7.size
      try simp at z7
      have e7 : Below w.heap.size w w7 := (by repeat (first | exact Below.refl _ _ | assumption | apply extAlloc | apply extDrewN | apply extDrew | (refine extStep ?_ (by assumption) (by first | (simp; done) | (simp; omega) | omega)) | (refine extCall ?_ (by assumption)) | (refine extSet ?_ (by first | (simp; done) | (simp; omega) | omega) _)))
      have y7 : w6.heap.size < w7.heap.size := by omega
      have B7 := (Blk.new w6 #[.int .i64 (strC l3), .int .i64 (strI l3)] 24).call b7
      have d0 := B7.cell 0
      have d1 := B7.cell 1
      go_wp2_with (go_at_call 10; with_reducible refine Calls.mono (closed_any _) ?_; rintro e w9 ⟨rfl, b9⟩)
      go_ret
      exact ⟨rfl, (by repeat (first | exact Below.refl _ _ | assumption | apply extAlloc | apply extDrewN | apply extDrew | (refine extStep ?_ (by assumption) (by first | (simp; done) | (simp; omega) | omega)) | (refine extCall ?_ (by assumption)) | (refine extSet ?_ (by first | (simp; done) | (simp; omega) | omega) _)))⟩
end Go.Proofs.Ytkokleicgpimbaa
