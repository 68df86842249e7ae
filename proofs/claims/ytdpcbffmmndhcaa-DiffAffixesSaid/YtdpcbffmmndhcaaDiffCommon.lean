/- The walks of diff.Common and of the laws' moved. -/
import Derived.Test.YtdpcbffmmndhcaaDiffWalks
namespace Go.Proofs.Ytdpcbffmmndhcaa
open Go.RowKit

def commV (a b : List ByteArray) : List ByteArray := if bC a b = 0 then kp a b else []
theorem kp_size (a b : List ByteArray) (h : ∀ s ∈ a, s.size ≤ maxLen) : ∀ s ∈ kp a b, s.size ≤ maxLen := fun s hs => h s ((kp_sub a b).1.subset hs)

set_option maxHeartbeats 1000000 in
theorem Common_good (w : World) (v u : Value) (a b : List ByteArray) (h : Strs w v a) (h' : Strs w u b) (ga : Good a) (gb : Good b) :
    Calls Try.prog 20 #[v, u] w fun e w' => ∃ x, e = .returned (.tuple #[x, .agg #[.int .i64 0, .int .i64 0]]) ∧ Strs w' x (kp a b) ∧ Below w.heap.size w w' := by
  have hz : bC a b = 0 := (bC_good a b).2 ⟨ga, gb⟩
  have hI := bI_good a b ga gb
  have la := ga.1
  have lb := gb.1
  have hks := kp_size a b h.2
  have hkl := (kp_sub a b).2.2
  have hkl2 := lcs_le_l a b
  obtain ⟨ao, cap, rfl, h1, h2, h3, h4⟩ := h.sl
  clear h1 h2 h4
  replace h3 := Lib.hid h3
  replace h := Lib.hid h
  replace h' := Lib.hid h'
  have hnx := align_next a b
  have hls := align_last a b
  have hL0 : (align a b).drop 0 = align (a.drop 0) (b.drop 0) := rfl
  have hall := (align_len a b).1
  generalize hL : align a b = L at hall hnx hls hL0
  replace hz := Lib.hid hz
  replace hI := Lib.hid hI
  replace hL := Lib.hid hL
  replace hnx := Lib.hid hnx
  replace hls := Lib.hid hls
  replace hL0 := Lib.hid hL0
  replace hks := Lib.hid hks
  replace hkl := Lib.hid hkl
  clear ga gb
  go_enter Try.func20, Try.ntmps20
  go_wp2_with (go_at_call 38; with_reducible refine Calls.mono (Both_any _ _ _ a b (h.out.mono (by exact (by repeat (first | exact Below.refl _ _ | assumption | apply extAlloc | apply extDrewN | apply extDrew | (refine extStep ?_ (by assumption) (by first | (simp; done) | (simp; omega) | omega)) | (refine extCall ?_ (by assumption)) | (refine extSet ?_ (by first | (simp; done) | (simp; omega) | omega) _))))) (h'.out.mono (by exact (by repeat (first | exact Below.refl _ _ | assumption | apply extAlloc | apply extDrewN | apply extDrew | (refine extStep ?_ (by assumption) (by first | (simp; done) | (simp; omega) | omega)) | (refine extCall ?_ (by assumption)) | (refine extSet ?_ (by first | (simp; done) | (simp; omega) | omega) _)))))) ?_; rintro e w1 ⟨rfl, b1⟩; rw [hz.out, hI.out])
  have e1 : Below w.heap.size w w1 := (by repeat (first | exact Below.refl _ _ | assumption | apply extAlloc | apply extDrewN | apply extDrew | (refine extStep ?_ (by assumption) (by first | (simp; done) | (simp; omega) | omega)) | (refine extCall ?_ (by assumption)) | (refine extSet ?_ (by first | (simp; done) | (simp; omega) | omega) _)))
  have B1 := (Blk.new w #[.int .i64 0, .int .i64 0] 24).call b1
  with_reducible refine Calls.mono (Align_any _ _ _ a b (h.out.mono (by exact (by repeat (first | exact Below.refl _ _ | assumption | apply extAlloc | apply extDrewN | apply extDrew | (refine extStep ?_ (by assumption) (by first | (simp; done) | (simp; omega) | omega)) | (refine extCall ?_ (by assumption)) | (refine extSet ?_ (by first | (simp; done) | (simp; omega) | omega) _))))) (h'.out.mono (by exact (by repeat (first | exact Below.refl _ _ | assumption | apply extAlloc | apply extDrewN | apply extDrew | (refine extStep ?_ (by assumption) (by first | (simp; done) | (simp; omega) | omega)) | (refine extCall ?_ (by assumption)) | (refine extSet ?_ (by first | (simp; done) | (simp; omega) | omega) _))))) la lb) ?_
  rintro e w2 ⟨x, rfl, hx, b2⟩
  rw [hL.out] at hx
  have e2 : Below w.heap.size w w2 := (by repeat (first | exact Below.refl _ _ | assumption | apply extAlloc | apply extDrewN | apply extDrew | (refine extStep ?_ (by assumption) (by first | (simp; done) | (simp; omega) | omega)) | (refine extCall ?_ (by assumption)) | (refine extSet ?_ (by first | (simp; done) | (simp; omega) | omega) _)))
  have B2 := (B1.alloc (.cells #[.int .i64 0, .int .i64 0] 24)).call b2
  obtain ⟨xo, xcap, rfl, x1, x2, x3, x4⟩ := hx.sl
  clear hx x4
  rw [maxLen_eq] at x2
  replace x3 := Lib.hid x3
  go_wp2
  go_loopw [7, 8, 22] (fun y n q wr => ∃ (t i j : Nat) (o : List ByteArray), t ≤ L.length ∧ i ≤ a.length ∧ n = .int .i64 i ∧ q = .int .i64 t ∧ Hid (L.drop t = align (a.drop i) (b.drop j)) ∧ Hid (kp a b = o ++ kp (a.drop i) (b.drop j)) ∧ OwnStrs wr w2.heap.size y o ∧ Below w2.heap.size w2 wr) (fun _ _ q _ => L.length - (intOf q).toNat)
  case atStart => exact ⟨0, 0, 0, [], Nat.zero_le _, Nat.zero_le _, rfl, rfl, hL0, rfl, OwnStrs.nil, Below.refl _ _⟩
  case round =>
    obtain ⟨t, i, j, o, ht, hi, rfl, rfl, hd, hk, hown, hb⟩ := hrel
    have hol : o.length ≤ 120 := by
      have := hkl.out
      rw [hk.out, List.length_append] at this
      omega
    have hB2 : Below w.heap.size w wr := e2.trans (hb.mono e2.size)
    have zz := hb.size
    by_cases hlt : t < L.length
    · obtain ⟨xb, xoff, ex, hltx, hcx⟩ := x3.out.at t (by simpa using hlt)
      subst ex
      obtain ⟨s, hs⟩ : ∃ s, s = L[t] := ⟨_, rfl⟩
      have cx : wr.cell? ⟨xb, xoff + t, none⟩ = some (.int .i64 s) := by
        rw [hb.cell (p := ⟨xb, xoff + t, none⟩) hltx, hcx, hs]; simp [i64v]
      clear hcx
      have hcase := hnx.out i j t hd.out hlt
      rw [← hs] at hcase
      replace hs := Lib.hid hs
      rcases hcase with ⟨rfl, hi1, hj1, hab, hd1, hk1⟩ | ⟨rfl, hi1, hd1, hk1, _⟩ | ⟨rfl, hj1, hd1, hk1, _⟩
      · obtain ⟨ab, aoff, ea, hlta, hca⟩ := h3.out.at i (by simpa using hi1)
        subst ea
        obtain ⟨sa, hsa⟩ : ∃ s, s = a[i] := ⟨_, rfl⟩
        have ca : wr.cell? ⟨ab, aoff + i, none⟩ = some (.string sa) := by
          rw [hB2.cell (p := ⟨ab, aoff + i, none⟩) hlta, hca, hsa]; simp
        have hsm : sa.size ≤ maxLen := by rw [hsa]; exact h.out.2 _ (List.getElem_mem hi1)
        clear hca
        have hk2 : Hid (kp a b = (o ++ [sa]) ++ kp (a.drop (i + 1)) (b.drop (j + 1))) := by
          show _ = _
          rw [hk.out, hk1, hsa]; simp
        replace hsa := Lib.hid hsa
        replace hd1 := Lib.hid hd1
        replace hsm := Lib.hid hsm
        clear hk hk1 hab
        go_wp2_with (first | (at_builtin; refine app_strs rfl (.tmp 28) (.tmp 33) rfl (w2.heap.size) rfl rfl (hown.alloc) (strs_one sa (by simp) hsm.out) (by first | (simp; done) | (simp; omega) | omega) (by first | (simp; done) | (simp; omega) | omega) ?_; intro y1 w3 o3 gw3 b3; (try simp only [List.nil_append] at o3); have zw3 := gw3.size; simp at zw3) | fail)
        go_roundw
        case rel => exact ⟨t + 1, i + 1, j + 1, o ++ [sa], hlt, hi1, by go_num, by go_num, hd1, hk2, o3, extStep (extAlloc hb) b3 (Nat.le_refl _)⟩
        case measure => (first | (simp [intOf]; done) | (simp [intOf]; omega))
      · have hk2 : Hid (kp a b = o ++ kp (a.drop (i + 1)) (b.drop j)) := by
          show _ = _
          rw [hk.out, hk1]
        replace hd1 := Lib.hid hd1
        clear hk hk1
        go_wp2
        go_roundw
        case rel => exact ⟨t + 1, i + 1, j, o, hlt, hi1, by go_num, by go_num, hd1, hk2, hown, hb⟩
        case measure => (first | (simp [intOf]; done) | (simp [intOf]; omega))
      · have hk2 : Hid (kp a b = o ++ kp (a.drop i) (b.drop (j + 1))) := by
          show _ = _
          rw [hk.out, hk1]
        replace hd1 := Lib.hid hd1
        clear hk hk1
        go_wp2
        go_roundw
        case rel => exact ⟨t + 1, i, j + 1, o, hlt, hi, rfl, by go_num, hd1, hk2, hown, hb⟩
        case measure => (first | (simp [intOf]; done) | (simp [intOf]; omega))
    · have hend : kp a b = o := by
        rw [hk.out, hls.out i j t hd.out (by omega), List.append_nil]
      replace hend := Lib.hid hend
      have B3 := B2.call hb
      have c0 := B3.cell 0
      have c1 := B3.cell 1
      have f0 := B3.fr 0
      have f1 := B3.fr 1
      have yb := B2.lt
      go_wp2
      refine bodyPost_ret (v := .tuple #[u7, .agg #[.int .i64 0, .int .i64 0]]) (by simp [results, Try.results20, go_sem, c0, c1]) rfl ?_
      refine ⟨_, rfl, ?_, (by repeat (first | exact Below.refl _ _ | assumption | apply extAlloc | apply extDrewN | apply extDrew | (refine extStep ?_ (by assumption) (by first | (simp; done) | (simp; omega) | omega)) | (refine extCall ?_ (by assumption)) | (refine extSet ?_ (by first | (simp; done) | (simp; omega) | omega) _)))⟩
      rw [hend.out]
      exact ((hown.set (a := ⟨w.heap.size, 0, none⟩) yb _).set (a := ⟨w.heap.size, 1, none⟩) yb _).strs (fun s hs => hks.out s (by rw [hend.out]; exact hs))

theorem Common_bad (w : World) (v u : Value) (a b : List ByteArray) (h : Strs w v a) (h' : Strs w u b) (hz : ¬ bC a b = 0) :
    Calls Try.prog 20 #[v, u] w fun e w' => e = .returned (.tuple #[.slice none 0 0, .agg #[.int .i64 (bC a b), .int .i64 (bI a b)]]) ∧ Below w.heap.size w w' := by
  replace h := Lib.hid h
  replace h' := Lib.hid h'
  generalize hq : bC a b = q at hz
  have hz' : (q == 0) = false := by simpa using hz
  replace hq := Lib.hid hq
  clear hz
  go_enter Try.func20, Try.ntmps20
  go_wp2_with (go_at_call 38; with_reducible refine Calls.mono (Both_any _ _ _ a b (h.out.mono (by exact (by repeat (first | exact Below.refl _ _ | assumption | apply extAlloc | apply extDrewN | apply extDrew | (refine extStep ?_ (by assumption) (by first | (simp; done) | (simp; omega) | omega)) | (refine extCall ?_ (by assumption)) | (refine extSet ?_ (by first | (simp; done) | (simp; omega) | omega) _))))) (h'.out.mono (by exact (by repeat (first | exact Below.refl _ _ | assumption | apply extAlloc | apply extDrewN | apply extDrew | (refine extStep ?_ (by assumption) (by first | (simp; done) | (simp; omega) | omega)) | (refine extCall ?_ (by assumption)) | (refine extSet ?_ (by first | (simp; done) | (simp; omega) | omega) _)))))) ?_; rintro e w1 ⟨rfl, b1⟩; rw [hq.out]; have B := (Blk.new w #[.int .i64 0, .int .i64 0] 24).call b1; have c0 := B.cell 0; have c1 := B.cell 1; have f0 := B.fr 0; have f1 := B.fr 1; have y := B.lt)
  go_region
  all_goals go_wp2
  all_goals
    refine bodyPost_ret (v := .tuple #[.slice none 0 0, .agg #[.int .i64 q, .int .i64 (bI a b)]]) (by simp [results, Try.results20, go_sem, c0, c1, y]) rfl ?_
    exact ⟨rfl, (by repeat (first | exact Below.refl _ _ | assumption | apply extAlloc | apply extDrewN | apply extDrew | (refine extStep ?_ (by assumption) (by first | (simp; done) | (simp; omega) | omega)) | (refine extCall ?_ (by assumption)) | (refine extSet ?_ (by first | (simp; done) | (simp; omega) | omega) _)))⟩

theorem Common_any (w : World) (v u : Value) (a b : List ByteArray) (h : Strs w v a) (h' : Strs w u b) :
    Calls Try.prog 20 #[v, u] w fun e w' => ∃ x, e = .returned (.tuple #[x, .agg #[.int .i64 (bC a b), .int .i64 (bI a b)]]) ∧ Strs w' x (commV a b) ∧ Below w.heap.size w w' := by
  by_cases hz : bC a b = 0
  · obtain ⟨ga, gb⟩ := (bC_good a b).1 hz
    rw [hz, bI_good a b ga gb, show commV a b = kp a b from if_pos hz]
    exact Common_good w v u a b h h' ga gb
  · rw [show commV a b = [] from if_neg hz]
    refine (Common_bad w v u a b h h' hz).mono ?_
    rintro e w' ⟨rfl, hb⟩
    exact ⟨_, rfl, Strs.nil _, hb⟩

theorem sl_two {w : World} {n T : Nat} (x y : Value) (hn : n = w.heap.size) : Sl (w.alloc (.cells #[x, y] T)) (.slice (some ⟨n, 0, none⟩) 2 2) [x, y] := by
  subst hn
  refine ⟨some ⟨w.heap.size, 0, none⟩, 2, rfl, Nat.le_refl _, by decide, ?_, fun h => by cases h⟩
  intro i hi
  simp only [List.length_cons, List.length_nil] at hi
  have : i = 0 ∨ i = 1 := by omega
  rcases this with rfl | rfl
  · exact ⟨_, _, rfl, by simp⟩
  · exact ⟨_, _, rfl, by simp⟩

theorem moved_any (w : World) :
    Calls Try.prog 17 #[] w fun e w' => e = .returned (.bool true) ∧ Below w.heap.size w w' := by
  go_enter Try.func17, Try.ntmps17
  go_wp2_with fail
  have s1 : Strs ((w.alloc (.cells #[.string ⟨#[120]⟩, .string ⟨#[121]⟩] 9)).alloc (.cells #[.string ⟨#[121]⟩, .string ⟨#[120]⟩] 9)) (.slice (some ⟨w.heap.size, 0, none⟩) 2 2) [⟨#[120]⟩, ⟨#[121]⟩] :=
    Strs.mono (w := w.alloc (.cells #[.string ⟨#[120]⟩, .string ⟨#[121]⟩] 9)) ⟨sl_two _ _ rfl, by decide⟩ (by repeat (first | exact Below.refl _ _ | assumption | apply extAlloc | apply extDrewN | apply extDrew | (refine extStep ?_ (by assumption) (by first | (simp; done) | (simp; omega) | omega)) | (refine extCall ?_ (by assumption)) | (refine extSet ?_ (by first | (simp; done) | (simp; omega) | omega) _)))
  have s2 : Strs ((w.alloc (.cells #[.string ⟨#[120]⟩, .string ⟨#[121]⟩] 9)).alloc (.cells #[.string ⟨#[121]⟩, .string ⟨#[120]⟩] 9)) (.slice (some ⟨w.heap.size + 1, 0, none⟩) 2 2) [⟨#[121]⟩, ⟨#[120]⟩] :=
    ⟨sl_two _ _ (by simp), by decide⟩
  with_reducible refine Calls.mono (Distance_any _ _ _ _ _ s1 s2) ?_
  rintro e w1 ⟨rfl, b1⟩
  rw [show distV [⟨#[120]⟩, ⟨#[121]⟩] [⟨#[121]⟩, ⟨#[120]⟩] = 2 from by decide, show bC [⟨#[120]⟩, ⟨#[121]⟩] [⟨#[121]⟩, ⟨#[120]⟩] = 0 from by decide]
  go_wp2_with fail
  go_ret
  exact ⟨rfl, (by repeat (first | exact Below.refl _ _ | assumption | apply extAlloc | apply extDrewN | apply extDrew | (refine extStep ?_ (by assumption) (by first | (simp; done) | (simp; omega) | omega)) | (refine extCall ?_ (by assumption)) | (refine extSet ?_ (by first | (simp; done) | (simp; omega) | omega) _)))⟩
end Go.Proofs.Ytdpcbffmmndhcaa
