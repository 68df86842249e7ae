/- Digests: the walks of DigestLastByte and DigestPairCancels. -/
import Derived.Test.YtkokleicgpimbaaDigLaws1
namespace Go.Proofs.Ytkokleicgpimbaa
open Go.RowKit

theorem emod_cancel (P x y : Int) (hP : 0 < P) (h1 : x - y < P) (h2 : y - x < P) (h : x % P = y % P) : x = y := by
  have h3 := Int.emod_eq_emod_iff_emod_sub_eq_zero.1 h
  obtain ⟨t, ht⟩ := Int.dvd_of_emod_eq_zero h3
  have h4 : t < 1 := by
    apply Int.lt_of_mul_lt_mul_left (a := P) _ (by omega)
    omega
  have h5 : -1 < t := by
    apply Int.lt_of_mul_lt_mul_left (a := P) _ (by omega)
    omega
  have : t = 0 := by omega
  rw [this, Int.mul_zero] at ht
  omega

theorem u8_of_int (c : Int) (hc : (Lit.int .u8 c).wf = true) : ∃ c' : UInt8, c = (c'.toNat : Int) := by
  have hcb : 0 ≤ c ∧ c ≤ 255 := by simpa [Lit.wf, IntKind.min, IntKind.max, IntKind.signed, IntKind.bits] using hc
  exact ⟨UInt8.ofNat c.toNat, by rw [UInt8.toNat_ofNat']; rw [Nat.mod_eq_of_lt (by omega)]; omega⟩

theorem last_law (l : List UInt8) (c d : UInt8) : ((dig (l ++ [c]) == dig (l ++ [d])) == ((c.toNat : Int) == (d.toNat : Int))) = true := by
  rw [dig_snoc, dig_snoc]
  have hc := c.toNat_lt
  have hd := d.toNat_lt
  by_cases h : (c.toNat : Int) = (d.toNat : Int)
  · rw [h]; simp
  · have : ¬ nx (dig l) (↑c.toNat + 1) 257 = nx (dig l) (↑d.toNat + 1) 257 := fun e => h (by
      have := emod_cancel 2305843009213693951 _ _ (by decide) (by omega) (by omega) e
      omega)
    rw [beq_eq_false_iff_ne.2 h, beq_eq_false_iff_ne.2 this]; rfl

set_option maxHeartbeats 1000000 in
theorem law_DigestLastByte (w : World) (v0 : Value) (l0 : List UInt8) (c d : Int) (H0 : U8s w v0 l0 ∧ l0.length ≤ 140737488351232) (hc : (Lit.int .u8 c).wf = true) (hd : (Lit.int .u8 d).wf = true) :
    Calls Try.prog 4 #[v0, .int .u8 c, .int .u8 d] w fun e w' => e = .returned (.bool true) ∧ Below w.heap.size w w' := by
  obtain ⟨c', rfl⟩ := u8_of_int c hc
  obtain ⟨d', rfl⟩ := u8_of_int d hd
  clear hc hd
  obtain ⟨H0, B0⟩ := H0
  replace H0 := Lib.hid H0
  have hlaw := last_law l0 c' d'
  have cases3 : ofC (l0 ++ [c']) = 2 ∨ (ofC (l0 ++ [c']) = 0 ∧ ofC (l0 ++ [d']) = 2) ∨ (ofC (l0 ++ [c']) = 0 ∧ ofC (l0 ++ [d']) = 0 ∧ ofV (l0 ++ [c']) = dig (l0 ++ [c']) ∧ ofV (l0 ++ [d']) = dig (l0 ++ [d'])) := by
    rcases codes (l0 ++ [c']) with ⟨a, a'⟩ | a <;> rcases codes (l0 ++ [d']) with ⟨b, b'⟩ | b <;> simp [*]
  go_enter Try.func4, Try.ntmps4
  go_wp2_with (first | (at_builtin; refine app_u8 rfl (.tmp 12) (.tmp 13) rfl (w.heap.size) rfl rfl (OwnU8.made (by simp) (by omega)) (H0.out.mono (by exact (by repeat (first | exact Below.refl _ _ | assumption | apply extAlloc | apply extDrewN | apply extDrew | (refine extStep ?_ (by assumption) (by first | (simp; done) | (simp; omega) | omega)) | (refine extCall ?_ (by assumption)) | (refine extSet ?_ (by first | (simp; done) | (simp; omega) | omega) _))))) (by first | (simp; done) | (simp; omega) | omega) (by first | (simp; done) | (simp; omega) | omega) ?_; intro x1 w3 o1 gw3 b3; (try simp only [List.nil_append] at o1); have zw3 := gw3.size; simp at zw3) | (at_builtin; refine app_u8 rfl (.tmp 14) (.tmp 16) rfl (w.heap.size) rfl rfl (o1.alloc) (u8s_one c' (by simp) rfl) (by first | (simp; done) | (simp; omega) | omega) (by first | (simp; done) | (simp; omega) | omega) ?_; intro x2 w4 o2 gw4 b4; (try simp only [List.nil_append] at o2); have zw4 := gw4.size; simp at zw4) | fail)
  with_reducible refine Calls.mono (of_any _ _ _ o2.u8s) ?_
  rintro e w5 ⟨rfl, b5⟩
  have z5 := b5.size
  have e5 : Below w.heap.size w w5 := (by repeat (first | exact Below.refl _ _ | assumption | apply extAlloc | apply extDrewN | apply extDrew | (refine extStep ?_ (by assumption) (by first | (simp; done) | (simp; omega) | omega)) | (refine extCall ?_ (by assumption)) | (refine extSet ?_ (by first | (simp; done) | (simp; omega) | omega) _)))
  go_wp2_with (first | (at_builtin; refine app_u8 rfl (.tmp 22) (.tmp 23) rfl (w5.heap.size + 1) rfl rfl (OwnU8.made (by simp) (by omega)) (H0.out.mono (by exact (by repeat (first | exact Below.refl _ _ | assumption | apply extAlloc | apply extDrewN | apply extDrew | (refine extStep ?_ (by assumption) (by first | (simp; done) | (simp; omega) | omega)) | (refine extCall ?_ (by assumption)) | (refine extSet ?_ (by first | (simp; done) | (simp; omega) | omega) _))))) (by first | (simp; done) | (simp; omega) | omega) (by first | (simp; done) | (simp; omega) | omega) ?_; intro x3 w6 o3 gw6 b6; (try simp only [List.nil_append] at o3); have zw6 := gw6.size; simp at zw6) | (at_builtin; refine app_u8 rfl (.tmp 24) (.tmp 26) rfl (w5.heap.size + 1) rfl rfl (o3.alloc) (u8s_one d' (by simp) rfl) (by first | (simp; done) | (simp; omega) | omega) (by first | (simp; done) | (simp; omega) | omega) ?_; intro x4 w7 o4 gw7 b7; (try simp only [List.nil_append] at o4); have zw7 := gw7.size; simp at zw7) | fail)
  with_reducible refine Calls.mono (of_any _ _ _ o4.u8s) ?_
  rintro e w8 ⟨rfl, b8⟩
  have z8 := b8.size
  have e8 : Below w.heap.size w w8 := (by repeat (first | exact Below.refl _ _ | assumption | apply extAlloc | apply extDrewN | apply extDrew | (refine extStep ?_ (by assumption) (by first | (simp; done) | (simp; omega) | omega)) | (refine extCall ?_ (by assumption)) | (refine extSet ?_ (by first | (simp; done) | (simp; omega) | omega) _)))
  have G2 := ((((((Blk.new w5 #[.int .i64 (ofC (l0 ++ [c'])), .int .i64 0] 24).alloc (.cells #[] 5)).mono b6 (by omega)).alloc _).mono b7 (by omega)).call b8).cell 0
  have y5 : w5.heap.size < w8.heap.size := by omega
  clear H0 o1 o2 o3 o4 gw3 gw4 gw6 gw7 b3 b4 b5 b6 b7
  rcases cases3 with h | ⟨h, h'⟩ | ⟨h, h', h3, h4⟩
  all_goals
    go_wp2_with (go_at_call 10; with_reducible refine Calls.mono (closed_any _) ?_; rintro e w9 ⟨rfl, b9⟩)
    go_ret
    exact ⟨rfl, (by repeat (first | exact Below.refl _ _ | assumption | apply extAlloc | apply extDrewN | apply extDrew | (refine extStep ?_ (by assumption) (by first | (simp; done) | (simp; omega) | omega)) | (refine extCall ?_ (by assumption)) | (refine extSet ?_ (by first | (simp; done) | (simp; omega) | omega) _)))⟩

theorem cancel_r (a b c : Int) (hb0 : 0 ≤ b) (hb : b < 2305843009213693951) (hc0 : 0 ≤ c) (hc : c < 2305843009213693951) (h : pr a b = pr a c) : b = c := by
  have k1 := nx_nn b 7 31
  have k2 := nx_lt b 7 31
  have k3 := nx_nn c 7 31
  have k4 := nx_lt c 7 31
  have e := emod_cancel 2305843009213693951 _ _ (by decide) (by omega) (by omega) h
  have e' : nx b 7 31 = nx c 7 31 := by omega
  exact lin_inj 2305843009213693951 31 2231460976658413501 30 b c 7 (by decide) hb0 hb hc0 hc e'
theorem cancel_l (a b c : Int) (hb0 : 0 ≤ b) (hb : b < 2305843009213693951) (hc0 : 0 ≤ c) (hc : c < 2305843009213693951) (h : pr b a = pr c a) : b = c :=
  lin_inj 2305843009213693951 1000003 1229363429801019168 533153 b c (nx a 7 31) (by decide) hb0 hb hc0 hc h
theorem beq2 {a b c d : Int} (h : a = b ↔ c = d) : ((a == b) == (c == d)) = true := by
  by_cases e : c = d
  · have := h.2 e; subst e; subst this; simp
  · have : ¬ a = b := fun x => e (h.1 x)
    rw [beq_eq_false_iff_ne.2 e, beq_eq_false_iff_ne.2 this]; rfl
theorem pairC_ok (a b : Int) (h : pairC a b = 0) : isD a = true ∧ isD b = true := by
  unfold pairC at h; split at h
  · split at h
    · exact ⟨by assumption, by assumption⟩
    · simp at h
  · simp at h
theorem pairV_ok (a b : Int) (h : pairC a b = 0) : pairV a b = pr a b := by
  obtain ⟨h1, h2⟩ := pairC_ok a b h
  simp [pairV, h1, h2]
theorem pairC_or (a b : Int) : pairC a b = 0 ∨ pairC a b = 3 := by
  unfold pairC; split
  · split
    · exact .inl rfl
    · exact .inr rfl
  · exact .inr rfl

set_option maxHeartbeats 1000000 in
theorem law_DigestPairCancels (w : World) (a b c : Int) (_ha : (Lit.int .i64 a).wf = true) (_hb : (Lit.int .i64 b).wf = true) (_hc : (Lit.int .i64 c).wf = true) :
    Calls Try.prog 6 #[.int .i64 a, .int .i64 b, .int .i64 c] w fun e w' => e = .returned (.bool true) ∧ Below w.heap.size w w' := by
  have cases5 : pairC a b = 3 ∨ (pairC a b = 0 ∧ pairC a c = 3) ∨ (pairC a b = 0 ∧ pairC a c = 0 ∧ pairC b a = 3) ∨ (pairC a b = 0 ∧ pairC a c = 0 ∧ pairC b a = 0 ∧ pairC c a = 3) ∨ (pairC a b = 0 ∧ pairC a c = 0 ∧ pairC b a = 0 ∧ pairC c a = 0 ∧ ((pairV a b == pairV a c) == (b == c)) = true ∧ ((pairV b a == pairV c a) == (b == c)) = true) := by
    rcases pairC_or a b with h1 | h1 <;> rcases pairC_or a c with h2 | h2 <;> rcases pairC_or b a with h3 | h3 <;> rcases pairC_or c a with h4 | h4 <;> simp only [h1, h2, h3, h4, true_and, true_or, or_true] <;> try decide
    rw [pairV_ok _ _ h1, pairV_ok _ _ h2, pairV_ok _ _ h3, pairV_ok _ _ h4]
    obtain ⟨k1, k2⟩ := pairC_ok _ _ h1
    obtain ⟨k3, k4⟩ := pairC_ok _ _ h2
    rw [isD_iff] at k2 k4
    right; right; right; right
    exact ⟨beq2 ⟨cancel_r _ _ _ k2.1 k2.2 k4.1 k4.2, fun e => by rw [e]⟩, beq2 ⟨cancel_l _ _ _ k2.1 k2.2 k4.1 k4.2, fun e => by rw [e]⟩⟩
  go_enter Try.func6, Try.ntmps6
  go_wp2_with fail
  with_reducible refine Calls.mono (Pair_any _ _ _) ?_
  rintro e w1 ⟨rfl, b1⟩
  go_wp2_with fail
  with_reducible refine Calls.mono (Pair_any _ _ _) ?_
  rintro e w2 ⟨rfl, b2⟩
  go_wp2_with fail
  with_reducible refine Calls.mono (Pair_any _ _ _) ?_
  rintro e w3 ⟨rfl, b3⟩
  go_wp2_with fail
  with_reducible refine Calls.mono (Pair_any _ _ _) ?_
  rintro e w4 ⟨rfl, b4⟩
  have z1 := b1.size
  have z2 := b2.size
  have z3 := b3.size
  have z4 := b4.size
  simp at z2 z3 z4
  have G1 := ((((((Blk.new w1 #[.int .i64 (pairC a b), .int .i64 (pairI a b)] 24).call b2).alloc _).call b3).alloc _).call b4).cell 0
  have G2 := ((((Blk.new w2 #[.int .i64 (pairC a c), .int .i64 (pairI a c)] 24).call b3).alloc _).call b4).cell 0
  have G3 := ((Blk.new w3 #[.int .i64 (pairC b a), .int .i64 (pairI b a)] 24).call b4).cell 0
  have y1 : w1.heap.size < w4.heap.size := by omega
  have y2 : w2.heap.size < w4.heap.size := by omega
  have y3 : w3.heap.size < w4.heap.size := by omega
  have e4 : Below w.heap.size w w4 := (by repeat (first | exact Below.refl _ _ | assumption | apply extAlloc | apply extDrewN | apply extDrew | (refine extStep ?_ (by assumption) (by first | (simp; done) | (simp; omega) | omega)) | (refine extCall ?_ (by assumption)) | (refine extSet ?_ (by first | (simp; done) | (simp; omega) | omega) _)))
  clear z1 z2 z3 b1 b2 b3 b4
  rcases cases5 with h | ⟨h, h'⟩ | ⟨h, h', h''⟩ | ⟨h, h', h'', h3⟩ | ⟨h, h', h'', h3, h4, h5⟩
  all_goals
    go_wp2_with (go_at_call 10; with_reducible refine Calls.mono (closed_any _) ?_; rintro e w9 ⟨rfl, b9⟩)
    go_ret
    exact ⟨rfl, (by repeat (first | exact Below.refl _ _ | assumption | apply extAlloc | apply extDrewN | apply extDrew | (refine extStep ?_ (by assumption) (by first | (simp; done) | (simp; omega) | omega)) | (refine extCall ?_ (by assumption)) | (refine extSet ?_ (by first | (simp; done) | (simp; omega) | omega) _)))⟩
end Go.Proofs.Ytkokleicgpimbaa
