/- digest.Of, walked, and as a spec. -/
import Derived.Test.YtehdgnnelabajaaSxTab
import Derived.Test.YtehdgnnelabajaaDigPure
namespace Go.Proofs.Ytehdgnnelabajaa
open Go.RowKit

theorem mul_inv0 (p q r a b : Nat) (h : (r + p * q) % 2305843009213693951 = a * b % 2305843009213693951) (hq : q % 2 = 0) :
    (r + 2 * p % 2305843009213693951 * (q / 2)) % 2305843009213693951 = a * b % 2305843009213693951 := by
  have e : p * q = 2 * p * (q / 2) := by
    have : q = 2 * (q / 2) := by omega
    calc p * q = p * (2 * (q / 2)) := by rw [← this]
      _ = 2 * p * (q / 2) := by rw [← Nat.mul_assoc, Nat.mul_comm p 2]
  rw [← h, e, Nat.add_mod, Nat.mod_mul_mod, ← Nat.add_mod]
theorem mul_inv1 (p q r a b : Nat) (h : (r + p * q) % 2305843009213693951 = a * b % 2305843009213693951) (hq : q % 2 = 1) :
    ((r + p) % 2305843009213693951 + 2 * p % 2305843009213693951 * (q / 2)) % 2305843009213693951 = a * b % 2305843009213693951 := by
  have e : p * q = p + 2 * p * (q / 2) := by
    have : q = 2 * (q / 2) + 1 := by omega
    calc p * q = p * (2 * (q / 2) + 1) := by rw [← this]
      _ = p + 2 * p * (q / 2) := by rw [Nat.mul_add, ← Nat.mul_assoc, Nat.mul_comm p 2]; omega
  rw [← h, e, ← Nat.add_assoc, Nat.add_mod, Nat.mod_mul_mod, Nat.mod_mod, ← Nat.add_mod]

set_option maxHeartbeats 400000 in
theorem mul_nat (a b : Nat) (w : World) (ha : a < 2305843009213693951) (hb : b < 2305843009213693951) :
    Calls Try.prog 64 #[.int .i64 a, .int .i64 b] w fun e w' => e = .returned (.int .i64 ((a * b % 2305843009213693951 : Nat) : Int)) ∧ w = w' := by
  go_enter Try.func64, Try.ntmps64
  go_wp2
  go_loop [0, 1, 5] (fun x y o => ∃ p q r : Nat, x = .int .i64 p ∧ y = .int .i64 q ∧ o = .int .i64 r ∧ p < 2305843009213693951 ∧ q < 2305843009213693951 ∧ r < 2305843009213693951 ∧ (r + p * q) % 2305843009213693951 = a * b % 2305843009213693951) (fun _ y _ => (intOf y).toNat)
  case atStart => exact ⟨a, b, 0, rfl, rfl, rfl, ha, hb, by omega, by simp⟩
  case round =>
    obtain ⟨p, q, r, rfl, rfl, rfl, hp, hq, hr, h⟩ := hrel
    have H := Lib.hid h; clear h
    by_cases hq0 : q = 0
    · subst hq0
      go_wp2
      go_ret
      have H := H.out
      simp only [Nat.mul_zero, Nat.add_zero] at H
      rw [Nat.mod_eq_of_lt hr] at H
      exact ⟨ret_int (by rw [H]; simp), rfl⟩
    · have e1 := and1 q
      have hq1 : 0 < q := by omega
      clear hq0
      rcases Nat.mod_two_eq_zero_or_one q with h2 | h2
      · rw [h2] at e1
        have H2 := Lib.hid h2; clear h2
        go_wp2
        go_round
        case rel => exact ⟨2 * p % 2305843009213693951, q / 2, r, by go_num, by go_num, rfl, by omega, by omega, hr, mul_inv0 _ _ _ _ _ H.out H2.out⟩
        case measure => simp [intOf]; omega
      · rw [h2] at e1
        have H2 := Lib.hid h2; clear h2
        go_wp2
        go_round
        case rel => exact ⟨2 * p % 2305843009213693951, q / 2, (r + p) % 2305843009213693951, by go_num, by go_num, by go_num, by omega, by omega, by omega, mul_inv1 _ _ _ _ _ H.out H2.out⟩
        case measure => simp [intOf]; omega

theorem mul_any (a b : Int) (w : World) (ha0 : 0 ≤ a) (ha : a < 2305843009213693951) (hb0 : 0 ≤ b) (hb : b < 2305843009213693951) :
    Calls Try.prog 64 #[.int .i64 a, .int .i64 b] w fun e w' => e = .returned (.int .i64 (a * b % 2305843009213693951)) ∧ w = w' := by
  obtain ⟨m, rfl⟩ := Int.eq_ofNat_of_zero_le ha0
  obtain ⟨n, rfl⟩ := Int.eq_ofNat_of_zero_le hb0
  refine (mul_nat m n w (by omega) (by omega)).mono ?_
  rintro e w' ⟨rfl, rfl⟩
  exact ⟨by simp, rfl⟩

theorem next_any (a b f : Int) (w : World) (ha0 : 0 ≤ a) (ha : a < 2305843009213693951) (hb0 : 0 ≤ b) (hb : b < 2305843009213693951) (hf0 : 0 ≤ f) (hf : f < 2305843009213693951) :
    Calls Try.prog 39 #[.agg #[.int .i64 a, .int .i64 b], .int .i64 f] w fun e w' => e = .returned (.int .i64 (nx a b f)) ∧ Below w.heap.size w w' := by
  go_enter Try.func39, Try.ntmps39
  go_wp2
  have hb1 : a * f % 2305843009213693951 < 2305843009213693951 := Int.emod_lt_of_pos _ (by omega)
  have hb2 : 0 ≤ a * f % 2305843009213693951 := Int.emod_nonneg _ (by omega)
  go_quiet ((go_at_call 64; exact Calls.quiet_of_same ((mul_any _ _ _ ha0 ha hf0 hf).mono fun e w' h => ⟨h.1, h.2.symm⟩)))
  go_wp2
  go_ret
  exact ⟨by simp [nx], below_drewN ((Below.refl _ _).alloc (Nat.le_refl _) _) _⟩

theorem of_big (w : World) (v : Value) (l : List UInt8) (h : U8s w v l) (hl : 4096 < l.length) :
    Calls Try.prog 20 #[v] w fun e w' => e = .returned (.tuple #[.int .i64 0, .agg #[.int .i64 2, .int .i64 0]]) ∧ Below w.heap.size w w' := by
  obtain ⟨ao, cap, rfl, h1, h2, h3, h4⟩ := h
  simp only [List.length_map] at h1
  rw [maxLen_eq] at h2
  go_enter Try.func20, Try.ntmps20
  rw [List.length_map]
  go_wp2
  refine bodyPost_ret (v := .tuple #[.int .i64 0, .agg #[.int .i64 2, .int .i64 0]]) (by simp [results, Try.results20, go_sem]) rfl ?_
  exact ⟨rfl, ((Below.refl _ _).alloc (Nat.le_refl _) _)⟩

set_option maxHeartbeats 400000 in
theorem of_small (w : World) (v : Value) (l : List UInt8) (h : U8s w v l) (hl : l.length ≤ 4096) :
    Calls Try.prog 20 #[v] w fun e w' => e = .returned (.tuple #[.int .i64 (dig l), .agg #[.int .i64 0, .int .i64 0]]) ∧ Below w.heap.size w w' := by
  obtain ⟨ao, cap, rfl, h1, h2, h3, h4⟩ := h
  simp only [List.length_map] at h1
  rw [maxLen_eq] at h2
  replace h4 := Lib.hid h4
  replace h3 := Lib.hid h3
  go_enter Try.func20, Try.ntmps20
  rw [List.length_map]
  go_wp2
  go_loopw [4, 13] (fun x i wr => ∃ k : Nat, k ≤ l.length ∧ i = .int .i64 k ∧ x = .int .i64 (dig (l.take k)) ∧ Below w.heap.size w wr ∧ Blk wr w.heap.size #[.int .i64 0, .int .i64 0] 24) (fun _ i _ => l.length - (intOf i).toNat)
  case atStart => exact ⟨0, Nat.zero_le _, rfl, rfl, (Below.refl _ _).alloc (Nat.le_refl _) _, Blk.new _ _ _⟩
  case round =>
    obtain ⟨k, hk, rfl, rfl, hb, hB⟩ := hrel
    by_cases hlt : k < l.length
    · obtain ⟨b, off, e, hlt2, hc⟩ := h3.out.at k (by simpa using hlt)
      have hcell : wr.cell? ⟨b, off + k, none⟩ = some (.int .u8 (l[k].toNat)) := by
        rw [hb.cell (p := ⟨b, off + k, none⟩) hlt2, hc]
        simp [u8v]
      subst e
      have hd := dig_bd (l.take k)
      have hu := l[k].toNat_lt
      have hs := Lib.hid (dig_take l k hlt)
      clear hc
      go_wp2_with (go_at_call 39; with_reducible refine (next_any _ _ _ _ (by omega) (by omega) (by omega) (by omega) (by omega) (by omega)).mono ?_; rintro e w1 ⟨rfl, hb1⟩)
      go_roundw
      case rel => exact ⟨k + 1, hlt, by go_num, by rw [hs.out], hb.trans (hb1.mono hb.size), hB.call hb1⟩
      case measure => simp [intOf]; omega
    · have c0 := hB.cell 0
      have c1 := hB.cell 1
      have f0 := hB.fr 0
      have f1 := hB.fr 1
      have e : l.take k = l := List.take_of_length_le (by omega)
      rw [e]
      go_wp2
      refine bodyPost_ret (v := .tuple #[.int .i64 (dig l), .agg #[.int .i64 0, .int .i64 0]]) (by simp [results, Try.results20, go_sem, c0, c1]) rfl ?_
      exact ⟨rfl, (hb.setCell (by simp) _).setCell (by simp) _⟩

def dU8L (l : List Int) : List UInt8 := l.map fun c => c.toNat.toUInt8
theorem dig_u8_back {n : Int} (h : 0 ≤ n ∧ n ≤ 255) : ((n.toNat.toUInt8).toNat : Int) = n := by
  have : n.toNat.toUInt8.toNat = n.toNat := by
    rw [UInt8.toNat_ofNat']
    omega
  rw [this]; omega
theorem u8_rd {w : World} {A : Nat → Prop} {l : List Int} {v : Value} (h : (Ty.slice (.int .u8)).rd w A l [v]) : U8s w v (dU8L l) := by
  obtain ⟨ao, cap, h0, h1, h2, h3, h4⟩ := h
  cases h0
  refine U8s.of ⟨ao, cap, by simp [dU8L], by simp [dU8L]; exact h1, h2, fun i hi => ?_, h3⟩
  have hi' : i < l.length := by simpa [dU8L] using hi
  obtain ⟨b, off, es, e1, -, -, ⟨e2, e3⟩, e4⟩ := h4 i hi'
  cases e2
  refine ⟨b, off, e1, ?_⟩
  have := e4 0 (by simp)
  simp only [Ty.size, Nat.mul_one, Nat.add_zero, List.getElem_cons_zero] at this
  rw [this]
  have e3' : 0 ≤ l[i] ∧ l[i] ≤ 255 := e3
  simp only [List.getElem_map, dU8L, u8v, dig_u8_back e3']
def ofV (l : List Int) : Int := if 4096 < l.length then 0 else dig (dU8L l)
def ofC (l : List Int) : Int := if 4096 < l.length then 2 else 0
theorem ofV_bd (l : List Int) : 0 ≤ ofV l ∧ ofV l < 2305843009213693951 := by
  unfold ofV
  split
  · omega
  · exact dig_bd _
def sp_Of : SpecF := pureSp true [.slice (.int .u8)] (fun _ => True) (fun (l', _) => .tu [(false, [.d (.int .i64) (ofV l')]), (true, [.d (.int .i64) (ofC l'), .d (.int .i64) 0])])
theorem fault_rel {w : World} {G : Gh} {A : Nat → Prop} {n c i : Int} (h1 : -9223372036854775808 ≤ n ∧ n ≤ 9223372036854775807) (h2 : -9223372036854775808 ≤ c ∧ c ≤ 9223372036854775807) (h3 : -9223372036854775808 ≤ i ∧ i ≤ 9223372036854775807) :
    (AV.tu [(false, [.d (.int .i64) n]), (true, [.d (.int .i64) c, .d (.int .i64) i])]).rel w G A (.tuple #[.int .i64 n, .agg #[.int .i64 c, .int .i64 i]]) :=
  ⟨[.int .i64 n, .agg #[.int .i64 c, .int .i64 i]], rfl, _, _, rfl, ⟨[.int .i64 n], ⟨_, _, rfl, ⟨rfl, h1⟩, rfl⟩, rfl, fun _ => rfl⟩, _, _, rfl, ⟨[.int .i64 c, .int .i64 i], ⟨_, _, rfl, ⟨rfl, h2⟩, _, _, rfl, ⟨rfl, h3⟩, rfl⟩, rfl, fun h => (by cases h)⟩, rfl⟩
theorem Of_sp : SpFact 20 sp_Of := by
  refine ⟨⟨Try.f20, rfl, rfl, rfl, callsSp_ok (fun ⟨_, _⟩ _ => rfl) ?_⟩, pureSp_loc _ _ _ _⟩
  rintro ⟨l, u⟩ w G A vals - - ha
  change List Int at l
  obtain ⟨v1, r1, rfl, h1, rfl⟩ := ha
  have h1 := AV.one_rel (x := .v false [.d (.slice (.int .u8)) l]) rfl h1
  have hu := u8_rd h1
  have hlen : (dU8L l).length = l.length := by simp [dU8L]
  have hb := ofV_bd l
  by_cases hl : 4096 < l.length
  · refine Calls.mono (of_big w v1 _ hu (by omega)) ?_
    rintro e w' ⟨rfl, hbl⟩
    refine ⟨_, rfl, (Only.refl _ _).call hbl, ?_⟩
    dsimp only
    rw [show ofV l = 0 from if_pos hl, show ofC l = 2 from if_pos hl]
    exact fault_rel (by omega) (by omega) (by omega)
  · refine Calls.mono (of_small w v1 _ hu (by omega)) ?_
    rintro e w' ⟨rfl, hbl⟩
    refine ⟨_, rfl, (Only.refl _ _).call hbl, ?_⟩
    dsimp only
    rw [show ofV l = dig (dU8L l) from if_neg hl, show ofC l = 0 from if_neg hl]
    have := dig_bd (dU8L l)
    exact fault_rel (by omega) (by omega) (by omega)
end Go.Proofs.Ytehdgnnelabajaa
