/- Digests: the walks of the reference's functions. -/
import Derived.Test.YtkokleicgpimbaaDigStrings
namespace Go.Proofs.Ytkokleicgpimbaa
open Go.RowKit

theorem At_any (a b : Int) (w : World) :
    Calls Try.prog 13 #[.int .i64 a, .int .i64 b] w fun e w' => e = .returned (.agg #[.int .i64 a, .int .i64 b]) ∧ Below w.heap.size w w' := by
  go_enter Try.func13, Try.ntmps13
  go_wp2
  refine bodyPost_ret (v := .agg #[.int .i64 a, .int .i64 b]) (by simp [results, Try.results13, go_sem]) rfl ?_
  exact ⟨rfl, (by repeat (first | exact Below.refl _ _ | assumption | apply extAlloc | apply extDrewN | apply extDrew | (refine extStep ?_ (by assumption) (by first | (simp; done) | (simp; omega) | omega)) | (refine extCall ?_ (by assumption)) | (refine extSet ?_ (by first | (simp; done) | (simp; omega) | omega) _)))⟩

set_option maxHeartbeats 400000 in
theorem times_nat (a b : Nat) (w : World) (ha : a < 2305843009213693951) (hb : b < 2305843009213693951) :
    Calls Try.prog 22 #[.int .i64 a, .int .i64 b] w fun e w' => e = .returned (.int .i64 ((a * b % 2305843009213693951 : Nat) : Int)) ∧ w = w' := by
  go_enter Try.func22, Try.ntmps22
  go_wp2
  go_loop [0, 1, 5] (fun x y o => ∃ p q r : Nat, x = .int .i64 p ∧ y = .int .i64 q ∧ o = .int .i64 r ∧ p < 2305843009213693951 ∧ q < 2305843009213693951 ∧ r < 2305843009213693951 ∧ (r + p * q) % 2305843009213693951 = a * b % 2305843009213693951) (fun _ y _ => (intOf y).toNat)
  case atStart => exact ⟨a, b, 0, rfl, rfl, rfl, ha, hb, by omega, by simp⟩
  case round =>
    obtain ⟨p, q, r, rfl, rfl, rfl, hp, hq, hr, h⟩ := hrel
    have H := Lib.hid h; clear h
    by_cases hq0 : q = 0
    · subst hq0
      go_wp2
      go_ret
      have H := H.out
      simp only [Nat.mul_zero, Nat.add_zero] at H
      rw [Nat.mod_eq_of_lt hr] at H
      exact ⟨ret_int (by rw [H]; simp), rfl⟩
    · have hq1 : 0 < q := by omega
      clear hq0
      rcases Nat.mod_two_eq_zero_or_one q with h2 | h2
      · have e1 : ((q : Int) % 2 == 1) = false := by rw [beq_eq_false_iff_ne]; omega
        replace h2 := Lib.hid h2
        go_wp2
        go_round
        case rel => exact ⟨(p + p) % 2305843009213693951, q / 2, r, by go_num, by go_num, rfl, by omega, by omega, hr, by have := mul_inv0 _ _ _ _ _ H.out h2.out; rwa [Nat.two_mul] at this⟩
        case measure => simp [intOf]; omega
      · have e1 : ((q : Int) % 2 == 1) = true := by rw [beq_iff_eq]; omega
        replace h2 := Lib.hid h2
        go_wp2
        go_round
        case rel => exact ⟨(p + p) % 2305843009213693951, q / 2, (r + p) % 2305843009213693951, by go_num, by go_num, by go_num, by omega, by omega, by omega, by have := mul_inv1 _ _ _ _ _ H.out h2.out; rwa [Nat.two_mul] at this⟩
        case measure => simp [intOf]; omega

theorem times_any (a b : Int) (w : World) (ha0 : 0 ≤ a) (ha : a < 2305843009213693951) (hb0 : 0 ≤ b) (hb : b < 2305843009213693951) :
    Calls Try.prog 22 #[.int .i64 a, .int .i64 b] w fun e w' => e = .returned (.int .i64 (a * b % 2305843009213693951)) ∧ w = w' := by
  obtain ⟨m, rfl⟩ := Int.eq_ofNat_of_zero_le ha0
  obtain ⟨n, rfl⟩ := Int.eq_ofNat_of_zero_le hb0
  refine (times_nat m n w (by omega) (by omega)).mono ?_
  rintro e w' ⟨rfl, rfl⟩
  exact ⟨by simp, rfl⟩

theorem RefIs_any (a : Int) (w : World) :
    Calls Try.prog 15 #[.int .i64 a] w fun e w' => e = .returned (.bool (isD a)) ∧ w = w' := by
  go_enter Try.func15, Try.ntmps15
  by_cases h : 0 ≤ a
  · go_wp2
    go_ret
    exact ⟨congrArg (fun b => Ending.returned (.bool b)) (by simp [isD, h]), rfl⟩
  · have h' : decide (0 ≤ a) = false := by simpa using h
    go_wp2
    go_ret
    exact ⟨congrArg (fun b => Ending.returned (.bool b)) (by simp only [isD, h', Bool.false_and]), rfl⟩

theorem emod_add2 (x y z P : Int) : (x % P + y % P + z) % P = (x + (y + z) % P) % P := by
  rw [Int.add_emod_emod, Int.add_assoc, Int.emod_add_emod, show x + (y % P + z) = y % P + (x + z) from by omega, Int.emod_add_emod]
  congr 1; omega

theorem RefPair_any (a b : Int) (w : World) (ha0 : 0 ≤ a) (ha : a < 2305843009213693951) (hb0 : 0 ≤ b) (hb : b < 2305843009213693951) :
    Calls Try.prog 16 #[.int .i64 a, .int .i64 b] w fun e w' => e = .returned (.int .i64 (pr a b)) ∧ w = w' := by
  have h1 : a * 1000003 % 2305843009213693951 < 2305843009213693951 := Int.emod_lt_of_pos _ (by omega)
  have h2 : 0 ≤ a * 1000003 % 2305843009213693951 := Int.emod_nonneg _ (by omega)
  have h3 : b * 31 % 2305843009213693951 < 2305843009213693951 := Int.emod_lt_of_pos _ (by omega)
  have h4 : 0 ≤ b * 31 % 2305843009213693951 := Int.emod_nonneg _ (by omega)
  have hp : pr a b = (a * 1000003 % 2305843009213693951 + b * 31 % 2305843009213693951 + 7) % 2305843009213693951 := (emod_add2 _ _ _ _).symm
  replace hp := Lib.hid hp
  go_enter Try.func16, Try.ntmps16
  go_wp2_with fail
  with_reducible refine Calls.mono (times_any _ _ _ ha0 ha (by omega) (by omega)) ?_
  rintro e w1 ⟨rfl, rfl⟩
  go_wp2_with fail
  with_reducible refine Calls.mono (times_any _ _ _ hb0 hb (by omega) (by omega)) ?_
  rintro e w1 ⟨rfl, rfl⟩
  go_wp2_with fail
  go_ret
  exact ⟨by rw [hp.out]; rfl, rfl⟩

set_option maxHeartbeats 400000 in
theorem RefOf_any (w : World) (v : Value) (l : List UInt8) (h : U8s w v l) :
    Calls Try.prog 14 #[v] w fun e w' => e = .returned (.int .i64 (dig l)) ∧ Below w.heap.size w w' := by
  obtain ⟨ao, cap, rfl, h1, h2, h3, h4⟩ := h.sl
  rw [maxLen_eq] at h2
  replace h4 := Lib.hid h4
  replace h3 := Lib.hid h3
  clear h
  go_enter Try.func14, Try.ntmps14
  go_wp2
  go_loopw [3, 4] (fun x i wr => ∃ k : Nat, k ≤ l.length ∧ i = .int .i64 k ∧ x = .int .i64 (dig (l.take k)) ∧ Below w.heap.size w wr) (fun _ i _ => l.length - (intOf i).toNat)
  case atStart => exact ⟨0, Nat.zero_le _, rfl, rfl, Below.refl _ _⟩
  case round =>
    obtain ⟨k, hk, rfl, rfl, hb⟩ := hrel
    by_cases hlt : k < l.length
    · obtain ⟨b, off, e, hlt2, hc⟩ := h3.out.at k (by simpa using hlt)
      have hcell : wr.cell? ⟨b, off + k, none⟩ = some (.int .u8 (l[k].toNat)) := by
        rw [hb.cell (p := ⟨b, off + k, none⟩) hlt2, hc]
        simp [u8v]
      subst e
      have hd := dig_bd (l.take k)
      have hu := l[k].toNat_lt
      have hs := Lib.hid (dig_take l k hlt)
      have hn := Lib.hid (show nx (dig (l.take k)) (↑l[k].toNat + 1) 257 = (dig (l.take k) * 257 % 2305843009213693951 + ↑l[k].toNat + 1) % 2305843009213693951 from by unfold nx; omega)
      have m1 : dig (l.take k) * 257 % 2305843009213693951 < 2305843009213693951 := Int.emod_lt_of_pos _ (by omega)
      have m2 : 0 ≤ dig (l.take k) * 257 % 2305843009213693951 := Int.emod_nonneg _ (by omega)
      have hki : (k : Int) < (l.length : Int) := by omega
      clear hc
      go_wp2
      go_quiet ((go_at_call 22; exact Calls.quiet_of_same (Calls.mono (times_any _ _ _ (by omega) (by omega) (by omega) (by omega)) fun e w' h => ⟨h.1, h.2.symm⟩)))
      go_wp2
      go_roundw
      case rel => exact ⟨k + 1, hlt, by go_num, by rw [hs.out, hn.out], below_drewN hb _⟩
      case measure => simp [intOf]; omega
    · have e : l.take k = l := List.take_of_length_le (by omega)
      rw [e]
      go_wp2
      go_ret
      exact ⟨rfl, hb⟩

/-- string(a) == string(b) -/
theorem same_any (w : World) (v0 v1 : Value) (l m : List UInt8) (h0 : U8s w v0 l) (h1 : U8s w v1 m) :
    Calls Try.prog 11 #[v0, v1] w fun e w' => e = .returned (.bool (l == m)) ∧ w = w' := by
  replace h0 := Lib.hid h0
  replace h1 := Lib.hid h1
  go_enter Try.func11, Try.ntmps11
  go_wp2_with (first | (refine wpList_conv_bs rfl 22 9 5 (.tmp 5) rfl rfl h0.out Try.underlying22 Try.underlying5 Try.underlying9 ?_) | (refine wpList_conv_bs rfl 22 9 5 (.tmp 7) rfl rfl h1.out Try.underlying22 Try.underlying5 Try.underlying9 ?_) | fail)
  go_ret
  refine ⟨?_, rfl⟩
  simp

theorem RefStrings_many (w : World) (v : Value) (l : List ByteArray) (h : Strs w v l) (hl : 120 < l.length) :
    Calls Try.prog 18 #[v] w fun e w' => e = .returned (.tuple #[.int .i64 0, .agg #[.int .i64 2, .int .i64 (-1)]]) ∧ Below w.heap.size w w' := by
  obtain ⟨ao, cap, rfl, h1, h2, h3, h4⟩ := h.sl
  rw [maxLen_eq] at h2
  clear h
  go_enter Try.func18, Try.ntmps18
  go_wp2_with (go_at_call 13; with_reducible refine Calls.mono (At_any _ _ _) ?_; rintro e w1 ⟨rfl, b1⟩; have B := (Blk.new w #[.int .i64 0, .int .i64 0] 24).call b1; have c0 := B.cell 0; have c1 := B.cell 1; have f0 := B.fr 0; have f1 := B.fr 1)
  refine bodyPost_ret (v := .tuple #[.int .i64 0, .agg #[.int .i64 2, .int .i64 (-1)]]) (by simp [results, Try.results18, go_sem, c0, c1]) rfl ?_
  exact ⟨rfl, (by repeat (first | exact Below.refl _ _ | assumption | apply extAlloc | apply extDrewN | apply extDrew | (refine extStep ?_ (by assumption) (by first | (simp; done) | (simp; omega) | omega)) | (refine extCall ?_ (by assumption)) | (refine extSet ?_ (by first | (simp; done) | (simp; omega) | omega) _)))⟩

set_option maxHeartbeats 1000000 in
theorem RefStrings_few (w : World) (v : Value) (l : List ByteArray) (h : Strs w v l) (hl : l.length ≤ 120) :
    Calls Try.prog 18 #[v] w fun e w' => e = .returned (.tuple #[.int .i64 (if bad l < l.length then 0 else fold l), .agg #[.int .i64 (if bad l < l.length then 2 else 0), .int .i64 (if bad l < l.length then bad l else 0)]]) ∧ Below w.heap.size w w' := by
  have hs := h.2
  obtain ⟨ao, cap, rfl, h1, h2, h3, h4⟩ := h.sl
  rw [maxLen_eq] at h2
  clear h
  replace h4 := Lib.hid h4
  replace h3 := Lib.hid h3
  replace hs := Lib.hid hs
  have hbl := bad_le l
  generalize hv : (if bad l < l.length then 0 else fold l) = V
  generalize hc : (if bad l < l.length then (2 : Int) else 0) = C
  generalize hi : (if bad l < l.length then (bad l : Int) else 0) = I
  replace hv := Lib.hid hv
  replace hc := Lib.hid hc
  replace hi := Lib.hid hi
  go_enter Try.func18, Try.ntmps18
  go_wp2
  go_loopw [4, 5] (fun x i wr => ∃ k : Nat, k ≤ bad l ∧ i = .int .i64 k ∧ x = .int .i64 (fold (l.take k)) ∧ Below w.heap.size w wr ∧ Blk wr w.heap.size #[.int .i64 0, .int .i64 0] 24) (fun _ i _ => l.length - (intOf i).toNat)
  case atStart => exact ⟨0, Nat.zero_le _, rfl, rfl, (by repeat (first | exact Below.refl _ _ | assumption | apply extAlloc | apply extDrewN | apply extDrew | (refine extStep ?_ (by assumption) (by first | (simp; done) | (simp; omega) | omega)) | (refine extCall ?_ (by assumption)) | (refine extSet ?_ (by first | (simp; done) | (simp; omega) | omega) _))), Blk.new _ _ _⟩
  case round =>
    obtain ⟨k, hk, rfl, rfl, hb, hB⟩ := hrel
    have zb := hb.size
    have zB := hB.lt
    by_cases hlt : k < l.length
    · obtain ⟨b, off, e, hlt2, hc0⟩ := h3.out.at k (by simpa using hlt)
      obtain ⟨s, es⟩ : ∃ s, s = l[k] := ⟨_, rfl⟩
      have hcell : wr.cell? ⟨b, off + k, none⟩ = some (.string s) := by
        rw [hb.cell (p := ⟨b, off + k, none⟩) hlt2, hc0, es]
        simp
      have hm : s.size ≤ maxLen := by rw [es]; exact hs.out _ (List.getElem_mem hlt)
      rw [maxLen_eq] at hm
      subst e
      clear hc0
      have hd := fold_bd (l.take k)
      by_cases hbad : k = bad l
      · have hbig : 4096 < s.size := by rw [es]; subst hbad; exact big_at l hlt
        have hlt' : bad l < l.length := by omega
        replace es := Lib.hid es
        replace hbad := Lib.hid hbad
        go_wp2_with (go_at_call 13; with_reducible refine Calls.mono (At_any _ _ _) ?_; rintro e w1 ⟨rfl, b1⟩; have B := hB.call b1; have c0 := B.cell 0; have c1 := B.cell 1; have f0 := B.fr 0; have f1 := B.fr 1)
        refine bodyPost_ret (v := .tuple #[.int .i64 0, .agg #[.int .i64 2, .int .i64 k]]) (by simp [results, Try.results18, go_sem, c0, c1]) rfl ?_
        have ev := hv.out
        have ec := hc.out
        have ei := hi.out
        have ek := hbad.out
        rw [if_pos hlt'] at ev ec ei
        refine ⟨by rw [← ev, ← ec, ← ei, ek], (by repeat (first | exact Below.refl _ _ | assumption | apply extAlloc | apply extDrewN | apply extDrew | (refine extStep ?_ (by assumption) (by first | (simp; done) | (simp; omega) | omega)) | (refine extCall ?_ (by assumption)) | (refine extSet ?_ (by first | (simp; done) | (simp; omega) | omega) _)))⟩
      · have hsm : s.size ≤ 4096 := by rw [es]; exact small_of_lt l k (by omega) hlt
        have hk1 : k + 1 ≤ bad l := by omega
        have hst := Lib.hid (fold_take l k hlt)
        replace es := Lib.hid es
        have hdd := dig_bd s.data.toList
        clear hbad hk
        go_wp2_with (first | (refine wpList_conv_sb rfl 9 22 5 (.tmp 28) rfl rfl Try.underlying9 Try.underlying22 Try.underlying5 (by rw [maxLen_eq]; omega) ?_; intro x1 w1 o1 b1; have z1 := b1.size) | (go_at_call 14; with_reducible refine Calls.mono (RefOf_any _ _ _ o1) ?_; rintro e w2 ⟨rfl, b2⟩; have z2 := b2.size) | (go_at_call 16; with_reducible refine Calls.mono (RefPair_any _ _ _ (by omega) (by omega) (by omega) (by omega)) ?_; rintro e w3 ⟨rfl, rfl⟩) | fail)
        go_roundw
        case rel => exact ⟨k + 1, hk1, by go_num, by rw [hst.out, ← es.out], (by repeat (first | exact Below.refl _ _ | assumption | apply extAlloc | apply extDrewN | apply extDrew | (refine extStep ?_ (by assumption) (by first | (simp; done) | (simp; omega) | omega)) | (refine extCall ?_ (by assumption)) | (refine extSet ?_ (by first | (simp; done) | (simp; omega) | omega) _))), (hB.call b1).call b2⟩
        case measure => simp [intOf]; omega
    · have c0 := hB.cell 0
      have c1 := hB.cell 1
      have f0 := hB.fr 0
      have f1 := hB.fr 1
      have hnb : ¬ bad l < l.length := by omega
      have e : l.take k = l := List.take_of_length_le (by omega)
      rw [e]
      go_wp2
      refine bodyPost_ret (v := .tuple #[.int .i64 (fold l), .agg #[.int .i64 0, .int .i64 0]]) (by simp [results, Try.results18, go_sem, c0, c1]) rfl ?_
      have ev := hv.out
      have ec := hc.out
      have ei := hi.out
      rw [if_neg hnb] at ev ec ei
      refine ⟨by rw [← ev, ← ec, ← ei], (by repeat (first | exact Below.refl _ _ | assumption | apply extAlloc | apply extDrewN | apply extDrew | (refine extStep ?_ (by assumption) (by first | (simp; done) | (simp; omega) | omega)) | (refine extCall ?_ (by assumption)) | (refine extSet ?_ (by first | (simp; done) | (simp; omega) | omega) _)))⟩

theorem RefStrings_any (w : World) (v : Value) (l : List ByteArray) (h : Strs w v l) :
    Calls Try.prog 18 #[v] w fun e w' => e = .returned (.tuple #[.int .i64 (strV l), .agg #[.int .i64 (strC l), .int .i64 (strI l)]]) ∧ Below w.heap.size w w' := by
  by_cases hl : 120 < l.length
  · simp only [strV, strC, strI, if_pos hl]
    exact RefStrings_many w v l h hl
  · simp only [strV, strC, strI, if_neg hl]
    exact RefStrings_few w v l h (by omega)
end Go.Proofs.Ytkokleicgpimbaa
