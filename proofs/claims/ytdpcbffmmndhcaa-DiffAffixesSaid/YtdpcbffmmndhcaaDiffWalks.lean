/- The walks of diff.Distance, diff.Common; of the laws' Strings, within, moved. -/
import Derived.Test.YtdpcbffmmndhcaaLinWalks2
import Derived.Test.YtdpcbffmmndhcaaDiffAlign
namespace Go.Proofs.Ytdpcbffmmndhcaa
open Go.RowKit

/-- the distance, where both texts are good -/
def distV (a b : List ByteArray) : Int := if bC a b = 0 then ((a.length + b.length - 2 * lcs a b : Nat) : Int) else 0

theorem EqStrings_any (w : World) (v u : Value) (l m : List ByteArray) (h : Strs w v l) (h' : Strs w u m) :
    Calls Try.prog 18 #[v, u] w fun e w' => e = .returned (.bool (decide (l = m))) ∧ Below w.heap.size w w' := by
  obtain ⟨ao, cap, rfl, h1, h2, h3, h4⟩ := h.sl
  obtain ⟨bo, cap', rfl, k1, k2, k3, k4⟩ := h'.sl
  rw [maxLen_eq] at h2 k2
  clear h4 k4 h h'
  replace h3 := Lib.hid h3
  replace k3 := Lib.hid k3
  by_cases hl : l.length = m.length
  · have q1 : ((l.length : Int) != (m.length : Int)) = false := by simp; omega
    replace hl := Lib.hid hl
    go_enter Try.func18, Try.ntmps18
    go_wp2
    go_loopw [5] (fun i wr => ∃ k : Nat, k ≤ l.length ∧ i = .int .i64 k ∧ Hid (l.take k = m.take k) ∧ Below w.heap.size w wr) (fun i _ => l.length - (intOf i).toNat)
    case atStart => exact ⟨0, Nat.zero_le _, rfl, rfl, Below.refl _ _⟩
    case round =>
      obtain ⟨k, hk, rfl, heq, hb⟩ := hrel
      by_cases hlt : k < l.length
      · have hlt' : k < m.length := by have := hl.out; omega
        obtain ⟨ab, aoff, ea, hlta, hca⟩ := h3.out.at k (by simpa using hlt)
        obtain ⟨bb, boff, eb, hltb, hcb⟩ := k3.out.at k (by simpa using hlt')
        subst ea eb
        obtain ⟨sa, hsa⟩ : ∃ s, s = l[k] := ⟨_, rfl⟩
        obtain ⟨sb, hsb⟩ : ∃ s, s = m[k] := ⟨_, rfl⟩
        have ca : wr.cell? ⟨ab, aoff + k, none⟩ = some (.string sa) := by
          rw [hb.cell (p := ⟨ab, aoff + k, none⟩) hlta, hca, hsa]; simp
        have cb : wr.cell? ⟨bb, boff + k, none⟩ = some (.string sb) := by
          rw [hb.cell (p := ⟨bb, boff + k, none⟩) hltb, hcb, hsb]; simp
        clear hca hcb
        replace hsa := Lib.hid hsa
        replace hsb := Lib.hid hsb
        by_cases e : sa = sb
        · have q2 := str_eq e
          have hnext : Hid (l.take (k + 1) = m.take (k + 1)) := by
            show _ = _
            rw [List.take_succ_eq_append_getElem hlt, List.take_succ_eq_append_getElem hlt', heq.out, ← hsa.out, ← hsb.out, e]
          replace e := Lib.hid e
          go_wp2
          go_quiet (fail)
          go_wp2
          go_roundw
          case rel => exact ⟨k + 1, hlt, by go_num, hnext, below_drewN hb _⟩
          case measure => (first | (simp [intOf]; done) | (simp [intOf]; omega))
        · have q2 := str_ne e
          have hne : decide (l = m) = false := by
            rw [decide_eq_false_iff_not]
            intro h
            subst h
            exact e (by rw [hsa.out, hsb.out])
          replace e := Lib.hid e
          replace hne := Lib.hid hne
          go_wp2
          go_quiet (fail)
          go_wp2
          go_ret
          exact ⟨by rw [hne.out]; rfl, below_drewN hb _⟩
      · have heqd : decide (l = m) = true := by
          rw [decide_eq_true_iff]
          have := heq.out
          rwa [List.take_of_length_le (by omega), List.take_of_length_le (by have := hl.out; omega)] at this
        replace heqd := Lib.hid heqd
        go_wp2
        go_ret
        exact ⟨by rw [heqd.out]; rfl, hb⟩
  · have q1 : ((l.length : Int) != (m.length : Int)) = true := by simp; omega
    have hne : decide (l = m) = false := by
      rw [decide_eq_false_iff_not]
      intro h
      exact hl (by rw [h])
    rw [hne]
    clear hl hne
    go_enter Try.func18, Try.ntmps18
    go_wp2
    go_ret
    exact ⟨rfl, Below.refl _ _⟩

theorem sub_step_eq (l a : List ByteArray) (k i : Nat) (hk : k < l.length) (hi : i < a.length) (e : a[i] = l[k]) : (l.drop k).Sublist (a.drop i) ↔ (l.drop (k + 1)).Sublist (a.drop (i + 1)) := by
  rw [List.drop_eq_getElem_cons hk, List.drop_eq_getElem_cons hi, e]
  exact List.cons_sublist_cons
theorem sub_ne (x y : ByteArray) (l a : List ByteArray) (e : ¬ y = x) : (x :: l).Sublist (y :: a) ↔ (x :: l).Sublist a := by
  constructor
  · intro h
    cases h with
    | cons _ h => exact h
    | cons_cons _ h => exact absurd rfl e
  · intro h; exact h.cons _
theorem sub_step_ne (l a : List ByteArray) (k i : Nat) (hk : k < l.length) (hi : i < a.length) (e : ¬ a[i] = l[k]) : (l.drop k).Sublist (a.drop i) ↔ (l.drop k).Sublist (a.drop (i + 1)) := by
  rw [List.drop_eq_getElem_cons hk, List.drop_eq_getElem_cons hi]
  exact sub_ne _ _ _ _ e

theorem within_any (w : World) (v u : Value) (l a : List ByteArray) (h : Strs w v l) (h' : Strs w u a) :
    Calls Try.prog 21 #[v, u] w fun e w' => e = .returned (.bool (decide (l.Sublist a))) ∧ Below w.heap.size w w' := by
  obtain ⟨ao, cap, rfl, h1, h2, h3, h4⟩ := h.sl
  obtain ⟨bo, cap', rfl, k1, k2, k3, k4⟩ := h'.sl
  rw [maxLen_eq] at h2 k2
  clear h4 k4 h h'
  replace h3 := Lib.hid h3
  replace k3 := Lib.hid k3
  go_enter Try.func21, Try.ntmps21
  go_wp2
  go_loopw [5, 6] (fun x y wr => ∃ k i : Nat, k ≤ l.length ∧ i ≤ a.length ∧ x = .int .i64 k ∧ y = .int .i64 i ∧ Hid (l.Sublist a ↔ (l.drop k).Sublist (a.drop i)) ∧ Below w.heap.size w wr) (fun _ y _ => a.length - (intOf y).toNat)
  case atStart => exact ⟨0, 0, Nat.zero_le _, Nat.zero_le _, rfl, rfl, Iff.rfl, Below.refl _ _⟩
  case round =>
    obtain ⟨k, i, hk, hi, rfl, rfl, hs, hb⟩ := hrel
    by_cases hi1 : i < a.length
    · by_cases hk1 : k < l.length
      · obtain ⟨ab, aoff, ea, hlta, hca⟩ := h3.out.at k (by simpa using hk1)
        obtain ⟨bb, boff, eb, hltb, hcb⟩ := k3.out.at i (by simpa using hi1)
        subst ea eb
        obtain ⟨sa, hsa⟩ : ∃ s, s = l[k] := ⟨_, rfl⟩
        obtain ⟨sb, hsb⟩ : ∃ s, s = a[i] := ⟨_, rfl⟩
        have ca : wr.cell? ⟨ab, aoff + k, none⟩ = some (.string sa) := by
          rw [hb.cell (p := ⟨ab, aoff + k, none⟩) hlta, hca, hsa]; simp
        have cb : wr.cell? ⟨bb, boff + i, none⟩ = some (.string sb) := by
          rw [hb.cell (p := ⟨bb, boff + i, none⟩) hltb, hcb, hsb]; simp
        clear hca hcb
        replace hsa := Lib.hid hsa
        replace hsb := Lib.hid hsb
        by_cases e : sb = sa
        · have q2 := str_eq e
          have hnext : Hid (l.Sublist a ↔ (l.drop (k + 1)).Sublist (a.drop (i + 1))) := hs.out.trans (sub_step_eq l a k i hk1 hi1 (by rw [← hsa.out, ← hsb.out, e]))
          replace e := Lib.hid e
          go_wp2
          go_quiet (fail)
          go_wp2
          go_roundw
          case rel => exact ⟨k + 1, i + 1, hk1, hi1, by go_num, by go_num, hnext, below_drewN hb _⟩
          case measure => (first | (simp [intOf]; done) | (simp [intOf]; omega))
        · have q2 := str_ne e
          have hnext : Hid (l.Sublist a ↔ (l.drop k).Sublist (a.drop (i + 1))) := hs.out.trans (sub_step_ne l a k i hk1 hi1 (by rw [← hsa.out, ← hsb.out]; exact e))
          replace e := Lib.hid e
          go_wp2
          go_quiet (fail)
          go_wp2
          go_roundw
          case rel => exact ⟨k, i + 1, hk, hi1, rfl, by go_num, hnext, below_drewN hb _⟩
          case measure => (first | (simp [intOf]; done) | (simp [intOf]; omega))
      · have hd : decide ((k : Int) < (l.length : Int)) = false := by simp; omega
        have hd2 : ((k : Int) == (l.length : Int)) = true := by simp; omega
        have hf : decide (l.Sublist a) = true := by
          rw [decide_eq_true_iff, hs.out, List.drop_eq_nil_of_le (by omega)]
          exact List.nil_sublist _
        replace hf := Lib.hid hf
        go_wp2
        go_ret
        exact ⟨by rw [hf.out]; rfl, hb⟩
    · by_cases hk1 : k < l.length
      · have hd2 : ((k : Int) == (l.length : Int)) = false := by rw [beq_eq_false_iff_ne]; omega
        have hf : decide (l.Sublist a) = false := by
          have en : a.drop i = [] := List.drop_eq_nil_of_le (by omega)
          rw [decide_eq_false_iff_not, hs.out, en, List.drop_eq_getElem_cons hk1]
          intro h; cases h
        replace hf := Lib.hid hf
        go_wp2
        go_ret
        exact ⟨by rw [hf.out]; rfl, hb⟩
      · have hd2 : ((k : Int) == (l.length : Int)) = true := by simp; omega
        have hf : decide (l.Sublist a) = true := by
          rw [decide_eq_true_iff, hs.out, List.drop_eq_nil_of_le (by omega)]
          exact List.nil_sublist _
        replace hf := Lib.hid hf
        go_wp2
        go_ret
        exact ⟨by rw [hf.out]; rfl, hb⟩

theorem distV_bad (a b : List ByteArray) (h : ¬ bC a b = 0) : distV a b = 0 := if_neg h

set_option maxHeartbeats 1000000 in
theorem Distance_any (w : World) (v u : Value) (a b : List ByteArray) (h : Strs w v a) (h' : Strs w u b) :
    Calls Try.prog 16 #[v, u] w fun e w' => e = .returned (.tuple #[.int .i64 (distV a b), .agg #[.int .i64 (bC a b), .int .i64 (bI a b)]]) ∧ Below w.heap.size w w' := by
  replace h := Lib.hid h
  replace h' := Lib.hid h'
  by_cases hz : bC a b = 0
  · obtain ⟨ga, gb⟩ := (bC_good a b).1 hz
    have hI := bI_good a b ga gb
    have hd : distV a b = ((cnt (align a b) : Nat) : Int) := by
      unfold distV cnt; rw [if_pos hz, (align_len a b).2]
    have la := ga.1
    have lb := gb.1
    have hall := (align_len a b).1
    generalize hL : align a b = L at hd hall
    rw [hd, hz, hI]
    clear hd
    replace hz := Lib.hid hz
    replace hI := Lib.hid hI
    replace hL := Lib.hid hL
    clear ga gb
    go_enter Try.func16, Try.ntmps16
    go_wp2_with (go_at_call 38; with_reducible refine Calls.mono (Both_any _ _ _ a b (h.out.mono (by exact (by repeat (first | exact Below.refl _ _ | assumption | apply extAlloc | apply extDrewN | apply extDrew | (refine extStep ?_ (by assumption) (by first | (simp; done) | (simp; omega) | omega)) | (refine extCall ?_ (by assumption)) | (refine extSet ?_ (by first | (simp; done) | (simp; omega) | omega) _))))) (h'.out.mono (by exact (by repeat (first | exact Below.refl _ _ | assumption | apply extAlloc | apply extDrewN | apply extDrew | (refine extStep ?_ (by assumption) (by first | (simp; done) | (simp; omega) | omega)) | (refine extCall ?_ (by assumption)) | (refine extSet ?_ (by first | (simp; done) | (simp; omega) | omega) _)))))) ?_; rintro e w1 ⟨rfl, b1⟩; rw [hz.out, hI.out])
    have e1 : Below w.heap.size w w1 := (by repeat (first | exact Below.refl _ _ | assumption | apply extAlloc | apply extDrewN | apply extDrew | (refine extStep ?_ (by assumption) (by first | (simp; done) | (simp; omega) | omega)) | (refine extCall ?_ (by assumption)) | (refine extSet ?_ (by first | (simp; done) | (simp; omega) | omega) _)))
    have B1 := (Blk.new w #[.int .i64 0, .int .i64 0] 24).call b1
    with_reducible refine Calls.mono (Align_any _ _ _ a b (h.out.mono (by exact (by repeat (first | exact Below.refl _ _ | assumption | apply extAlloc | apply extDrewN | apply extDrew | (refine extStep ?_ (by assumption) (by first | (simp; done) | (simp; omega) | omega)) | (refine extCall ?_ (by assumption)) | (refine extSet ?_ (by first | (simp; done) | (simp; omega) | omega) _))))) (h'.out.mono (by exact (by repeat (first | exact Below.refl _ _ | assumption | apply extAlloc | apply extDrewN | apply extDrew | (refine extStep ?_ (by assumption) (by first | (simp; done) | (simp; omega) | omega)) | (refine extCall ?_ (by assumption)) | (refine extSet ?_ (by first | (simp; done) | (simp; omega) | omega) _))))) la lb) ?_
    rintro e w2 ⟨x, rfl, hx, b2⟩
    rw [hL.out] at hx
    have e2 : Below w.heap.size w w2 := (by repeat (first | exact Below.refl _ _ | assumption | apply extAlloc | apply extDrewN | apply extDrew | (refine extStep ?_ (by assumption) (by first | (simp; done) | (simp; omega) | omega)) | (refine extCall ?_ (by assumption)) | (refine extSet ?_ (by first | (simp; done) | (simp; omega) | omega) _)))
    have B2 := (B1.alloc (.cells #[.int .i64 0, .int .i64 0] 24)).call b2
    obtain ⟨xo, xcap, rfl, x1, x2, x3, x4⟩ := hx.sl
    clear hx x4
    rw [maxLen_eq] at x2
    replace x3 := Lib.hid x3
    go_wp2
    go_loopw [7, 21] (fun n i wr => ∃ k : Nat, k ≤ L.length ∧ i = .int .i64 k ∧ n = .int .i64 (cnt (L.take k) : Nat) ∧ Below w2.heap.size w2 wr) (fun _ i _ => L.length - (intOf i).toNat)
    case atStart => exact ⟨0, Nat.zero_le _, rfl, rfl, Below.refl _ _⟩
    case round =>
      obtain ⟨k, hk, rfl, rfl, hb⟩ := hrel
      have hcl := cnt_le (L.take k)
      rw [List.length_take] at hcl
      by_cases hlt : k < L.length
      · obtain ⟨xb, xoff, ex, hltx, hcx⟩ := x3.out.at k (by simpa using hlt)
        subst ex
        have ht := cnt_take L k hlt
        obtain ⟨s, hs⟩ : ∃ s, s = L[k] := ⟨_, rfl⟩
        have cx : wr.cell? ⟨xb, xoff + k, none⟩ = some (.int .i64 s) := by
          rw [hb.cell (p := ⟨xb, xoff + k, none⟩) hltx, hcx, hs]; simp [i64v]
        clear hcx
        rw [← hs] at ht
        replace hs := Lib.hid hs
        by_cases e0 : s = 0
        · rw [if_pos e0, Nat.add_zero] at ht
          subst e0
          replace ht := Lib.hid ht
          go_wp2
          go_roundw
          case rel => exact ⟨k + 1, hlt, by go_num, by rw [ht.out]; go_num, hb⟩
          case measure => (first | (simp [intOf]; done) | (simp [intOf]; omega))
        · rw [if_neg e0] at ht
          have q0 : (s != 0) = true := by simpa using e0
          replace ht := Lib.hid ht
          clear e0
          go_wp2
          go_roundw
          case rel => exact ⟨k + 1, hlt, by go_num, by rw [ht.out]; go_num, hb⟩
          case measure => (first | (simp [intOf]; done) | (simp [intOf]; omega))
      · have e : L.take k = L := List.take_of_length_le (by omega)
        rw [e]
        have B3 := B2.call hb
        have c0 := B3.cell 0
        have c1 := B3.cell 1
        have f0 := B3.fr 0
        have f1 := B3.fr 1
        go_wp2
        refine bodyPost_ret (v := .tuple #[.int .i64 ((cnt L : Nat) : Int), .agg #[.int .i64 0, .int .i64 0]]) (by simp [results, Try.results16, go_sem, c0, c1]) rfl ?_
        exact ⟨rfl, (by repeat (first | exact Below.refl _ _ | assumption | apply extAlloc | apply extDrewN | apply extDrew | (refine extStep ?_ (by assumption) (by first | (simp; done) | (simp; omega) | omega)) | (refine extCall ?_ (by assumption)) | (refine extSet ?_ (by first | (simp; done) | (simp; omega) | omega) _)))⟩
  · rw [distV_bad a b hz]
    generalize hq : bC a b = q at hz
    have hz' : (q == 0) = false := by simpa using hz
    replace hq := Lib.hid hq
    clear hz
    go_enter Try.func16, Try.ntmps16
    go_wp2_with (go_at_call 38; with_reducible refine Calls.mono (Both_any _ _ _ a b (h.out.mono (by exact (by repeat (first | exact Below.refl _ _ | assumption | apply extAlloc | apply extDrewN | apply extDrew | (refine extStep ?_ (by assumption) (by first | (simp; done) | (simp; omega) | omega)) | (refine extCall ?_ (by assumption)) | (refine extSet ?_ (by first | (simp; done) | (simp; omega) | omega) _))))) (h'.out.mono (by exact (by repeat (first | exact Below.refl _ _ | assumption | apply extAlloc | apply extDrewN | apply extDrew | (refine extStep ?_ (by assumption) (by first | (simp; done) | (simp; omega) | omega)) | (refine extCall ?_ (by assumption)) | (refine extSet ?_ (by first | (simp; done) | (simp; omega) | omega) _)))))) ?_; rintro e w1 ⟨rfl, b1⟩; rw [hq.out]; have B := (Blk.new w #[.int .i64 0, .int .i64 0] 24).call b1; have c0 := B.cell 0; have c1 := B.cell 1; have f0 := B.fr 0; have f1 := B.fr 1; have y := B.lt)
    go_region
    all_goals go_wp2
    all_goals
      refine bodyPost_ret (v := .tuple #[.int .i64 0, .agg #[.int .i64 q, .int .i64 (bI a b)]]) (by simp [results, Try.results16, go_sem, c0, c1, y]) rfl ?_
      exact ⟨rfl, (by repeat (first | exact Below.refl _ _ | assumption | apply extAlloc | apply extDrewN | apply extDrew | (refine extStep ?_ (by assumption) (by first | (simp; done) | (simp; omega) | omega)) | (refine extCall ?_ (by assumption)) | (refine extSet ?_ (by first | (simp; done) | (simp; omega) | omega) _)))⟩
end Go.Proofs.Ytdpcbffmmndhcaa
