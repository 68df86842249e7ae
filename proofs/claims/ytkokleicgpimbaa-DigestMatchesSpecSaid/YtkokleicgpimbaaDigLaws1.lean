/- Digests: the walks of the laws on Of. -/
import Derived.Test.YtkokleicgpimbaaDigWalks
import Derived.Deep.DeepMust
namespace Go.Proofs.Ytkokleicgpimbaa
open Go.RowKit

/-- what Of answers -/
def ofV (l : List UInt8) : Int := if l.length ≤ 4096 then dig l else 0
def ofC (l : List UInt8) : Int := if l.length ≤ 4096 then 0 else 2
theorem of_any (w : World) (v : Value) (l : List UInt8) (h : U8s w v l) :
    Calls Try.prog 9 #[v] w fun e w' => e = .returned (.tuple #[.int .i64 (ofV l), .agg #[.int .i64 (ofC l), .int .i64 0]]) ∧ Below w.heap.size w w' := by
  by_cases hl : l.length ≤ 4096
  · rw [show ofV l = dig l from if_pos hl, show ofC l = 0 from if_pos hl]
    exact of_small w v l h hl
  · rw [show ofV l = 0 from if_neg hl, show ofC l = 2 from if_neg hl]
    exact of_big w v l h (by omega)

theorem lin_inj (P f i q a b c : Int) (hi : f * i = 1 + P * q) (ha0 : 0 ≤ a) (ha : a < P) (hb0 : 0 ≤ b) (hb : b < P) (h : (a * f + c) % P = (b * f + c) % P) : a = b := by
  have h1 := Int.emod_eq_emod_iff_emod_sub_eq_zero.1 h
  obtain ⟨k, hk⟩ := Int.dvd_of_emod_eq_zero h1
  have e1 : (a - b) * f = P * k := by rw [← hk, Int.sub_mul]; omega
  have e2 : a - b = P * (k * i - (a - b) * q) := by
    have h2 : (a - b) * (f * i) = P * k * i := by rw [← Int.mul_assoc, e1]
    rw [hi, Int.mul_add, Int.mul_one] at h2
    rw [Int.mul_sub, ← Int.mul_assoc, ← h2]
    have h3 : (a - b) * (P * q) = P * ((a - b) * q) := by rw [← Int.mul_assoc, Int.mul_comm (a - b) P, Int.mul_assoc]
    omega
  generalize k * i - (a - b) * q = t at e2
  have h4 : t < 1 := by
    apply Int.lt_of_mul_lt_mul_left (a := P) _ (by omega)
    omega
  have h5 : -1 < t := by
    apply Int.lt_of_mul_lt_mul_left (a := P) _ (by omega)
    omega
  have : t = 0 := by omega
  rw [this, Int.mul_zero] at e2
  omega
theorem nx_inj257 (a b c : Int) (ha0 : 0 ≤ a) (ha : a < 2305843009213693951) (hb0 : 0 ≤ b) (hb : b < 2305843009213693951) (h : nx a c 257 = nx b c 257) : a = b :=
  lin_inj 2305843009213693951 257 1327878464449909357 148 a b c (by decide) ha0 ha hb0 hb h
theorem ext_law (l m : List UInt8) (c : UInt8) : ((dig l == dig m) == (dig (l ++ [c]) == dig (m ++ [c]))) = true := by
  rw [dig_snoc, dig_snoc]
  have h1 := dig_bd l
  have h2 := dig_bd m
  by_cases h : dig l = dig m
  · simp [h]
  · have : ¬ nx (dig l) (↑c.toNat + 1) 257 = nx (dig m) (↑c.toNat + 1) 257 := fun e => h (nx_inj257 _ _ _ h1.1 h1.2 h2.1 h2.2 e)
    rw [beq_eq_false_iff_ne.2 h, beq_eq_false_iff_ne.2 this]; rfl

theorem codes (l : List UInt8) : (ofC l = 0 ∧ ofV l = dig l) ∨ ofC l = 2 := by
  unfold ofC ofV; split
  · exact .inl ⟨rfl, rfl⟩
  · exact .inr rfl

set_option maxHeartbeats 1000000 in
theorem law_DigestExtends (w : World) (v0 : Value) (l0 : List UInt8) (v1 : Value) (l1 : List UInt8) (c : Int) (H0 : U8s w v0 l0 ∧ l0.length ≤ 140737488351232) (H1 : U8s w v1 l1 ∧ l1.length ≤ 140737488351232) (hc : (Lit.int .u8 c).wf = true) :
    Calls Try.prog 3 #[v0, v1, .int .u8 c] w fun e w' => e = .returned (.bool true) ∧ Below w.heap.size w w' := by
  have hcb : 0 ≤ c ∧ c ≤ 255 := by simpa [Lit.wf, IntKind.min, IntKind.max, IntKind.signed, IntKind.bits] using hc
  obtain ⟨c', rfl⟩ : ∃ c' : UInt8, c = (c'.toNat : Int) := ⟨UInt8.ofNat c.toNat, by rw [UInt8.toNat_ofNat']; rw [Nat.mod_eq_of_lt (by omega)]; omega⟩
  clear hc hcb
  obtain ⟨H0, B0⟩ := H0
  obtain ⟨H1, B1⟩ := H1
  replace H0 := Lib.hid H0
  replace H1 := Lib.hid H1
  have hlaw := ext_law l0 l1 c'
  have cases5 : ofC l0 = 2 ∨ (ofC l0 = 0 ∧ ofC l1 = 2) ∨ (ofC l0 = 0 ∧ ofC l1 = 0 ∧ ofC (l0 ++ [c']) = 2) ∨ (ofC l0 = 0 ∧ ofC l1 = 0 ∧ ofC (l0 ++ [c']) = 0 ∧ ofC (l1 ++ [c']) = 2) ∨ (ofC l0 = 0 ∧ ofC l1 = 0 ∧ ofC (l0 ++ [c']) = 0 ∧ ofC (l1 ++ [c']) = 0 ∧ ofV l0 = dig l0 ∧ ofV l1 = dig l1 ∧ ofV (l0 ++ [c']) = dig (l0 ++ [c']) ∧ ofV (l1 ++ [c']) = dig (l1 ++ [c'])) := by
    rcases codes l0 with ⟨a, a'⟩ | a <;> rcases codes l1 with ⟨b, b'⟩ | b <;> rcases codes (l0 ++ [c']) with ⟨d, d'⟩ | d <;> rcases codes (l1 ++ [c']) with ⟨e, e'⟩ | e <;> simp [*]
  have hL0 : (l0 ++ [c']).length = l0.length + 1 := by simp
  have hL1 : (l1 ++ [c']).length = l1.length + 1 := by simp
  go_enter Try.func3, Try.ntmps3
  go_wp2_with fail
  with_reducible refine Calls.mono (of_any _ _ l0 H0.out) ?_
  rintro e w1 ⟨rfl, b1⟩
  go_wp2_with fail
  with_reducible refine Calls.mono (of_any _ _ l1 (H1.out.mono (by exact (by repeat (first | exact Below.refl _ _ | assumption | apply extAlloc | apply extDrewN | apply extDrew | (refine extStep ?_ (by assumption) (by first | (simp; done) | (simp; omega) | omega)) | (refine extCall ?_ (by assumption)) | (refine extSet ?_ (by first | (simp; done) | (simp; omega) | omega) _)))))) ?_
  rintro e w2 ⟨rfl, b2⟩
  have z1 := b1.size
  have z2 := b2.size
  simp at z2
  go_wp2_with (first | (at_builtin; refine app_u8 rfl (.tmp 26) (.tmp 27) rfl (w2.heap.size + 1) rfl rfl (OwnU8.made (by simp) (by omega)) (H0.out.mono (by exact (by repeat (first | exact Below.refl _ _ | assumption | apply extAlloc | apply extDrewN | apply extDrew | (refine extStep ?_ (by assumption) (by first | (simp; done) | (simp; omega) | omega)) | (refine extCall ?_ (by assumption)) | (refine extSet ?_ (by first | (simp; done) | (simp; omega) | omega) _))))) (by simp; omega) (by simp) ?_; intro x1 w3 o1 g1 b3; have z3 := g1.size; simp at z3) | (at_builtin; refine app_u8 rfl (.tmp 28) (.tmp 30) rfl (w2.heap.size + 1) rfl rfl o1.alloc (u8s_one c' (by simp) rfl) (by simp; omega) (by simp; omega) ?_; intro x2 w4 o2 g2 b4; have z4 := g2.size; simp at z4) | fail)
  with_reducible refine Calls.mono (of_any _ _ _ o2.u8s) ?_
  rintro e w5 ⟨rfl, b5⟩
  have z5 := b5.size
  have e5 : Below w.heap.size w w5 := (by repeat (first | exact Below.refl _ _ | assumption | apply extAlloc | apply extDrewN | apply extDrew | (refine extStep ?_ (by assumption) (by first | (simp; done) | (simp; omega) | omega)) | (refine extCall ?_ (by assumption)) | (refine extSet ?_ (by first | (simp; done) | (simp; omega) | omega) _)))
  have F0 : Blk w5 w1.heap.size #[.int .i64 (ofC l0), .int .i64 0] 24 := (((((((Blk.new w1 _ _).call b2).alloc _).alloc _).mono b3 (by omega)).alloc _).mono b4 (by omega)).call b5
  have F1 : Blk w5 w2.heap.size #[.int .i64 (ofC l1), .int .i64 0] 24 := (((((Blk.new w2 _ _).alloc _).mono b3 (by omega)).alloc _).mono b4 (by omega)).call b5
  go_wp2_with (first | (at_builtin; refine app_u8 rfl (.tmp 36) (.tmp 37) rfl (w5.heap.size + 1) rfl rfl (OwnU8.made (by simp) (by omega)) (H1.out.mono (by exact (by repeat (first | exact Below.refl _ _ | assumption | apply extAlloc | apply extDrewN | apply extDrew | (refine extStep ?_ (by assumption) (by first | (simp; done) | (simp; omega) | omega)) | (refine extCall ?_ (by assumption)) | (refine extSet ?_ (by first | (simp; done) | (simp; omega) | omega) _))))) (by simp; omega) (by simp) ?_; intro x3 w6 o3 g3 b6; have z6 := g3.size; simp at z6) | (at_builtin; refine app_u8 rfl (.tmp 38) (.tmp 40) rfl (w5.heap.size + 1) rfl rfl o3.alloc (u8s_one c' (by simp) rfl) (by simp; omega) (by simp; omega) ?_; intro x4 w7 o4 g4 b7; have z7 := g4.size; simp at z7) | fail)
  with_reducible refine Calls.mono (of_any _ _ _ o4.u8s) ?_
  rintro e w8 ⟨rfl, b8⟩
  have z8 := b8.size
  have e8 : Below w.heap.size w w8 := (by repeat (first | exact Below.refl _ _ | assumption | apply extAlloc | apply extDrewN | apply extDrew | (refine extStep ?_ (by assumption) (by first | (simp; done) | (simp; omega) | omega)) | (refine extCall ?_ (by assumption)) | (refine extSet ?_ (by first | (simp; done) | (simp; omega) | omega) _)))
  have G0 := ((((((F0.alloc (.cells #[.int .i64 (ofC (l0 ++ [c'])), .int .i64 0] 24)).alloc (.cells #[] 5)).mono b6 (by have := F0.lt; omega)).alloc _).mono b7 (by have := F0.lt; omega)).call b8).cell 0
  have G1 := ((((((F1.alloc (.cells #[.int .i64 (ofC (l0 ++ [c'])), .int .i64 0] 24)).alloc (.cells #[] 5)).mono b6 (by have := F1.lt; omega)).alloc _).mono b7 (by have := F1.lt; omega)).call b8).cell 0
  have G2 := ((((((Blk.new w5 #[.int .i64 (ofC (l0 ++ [c'])), .int .i64 0] 24).alloc (.cells #[] 5)).mono b6 (by omega)).alloc _).mono b7 (by omega)).call b8).cell 0
  have y0 := F0.lt
  have y1 := F1.lt
  have Hz : w1.heap.size < w8.heap.size ∧ w2.heap.size < w8.heap.size ∧ w5.heap.size < w8.heap.size := by omega
  obtain ⟨y3, y4, y5⟩ := Hz
  clear H0 H1 o1 o2 o3 o4 g1 g2 g3 g4 F0 F1 b2 b3 b4 b5 b6 b7 hL0 hL1
  rcases cases5 with h | ⟨h, h'⟩ | ⟨h, h', h''⟩ | ⟨h, h', h'', h3⟩ | ⟨h, h', h'', h3, h4, h5, h6, h7⟩
  all_goals
    go_wp2_with (go_at_call 10; with_reducible refine Calls.mono (closed_any _) ?_; rintro e w9 ⟨rfl, b9⟩)
    go_ret
    exact ⟨rfl, (by repeat (first | exact Below.refl _ _ | assumption | apply extAlloc | apply extDrewN | apply extDrew | (refine extStep ?_ (by assumption) (by first | (simp; done) | (simp; omega) | omega)) | (refine extCall ?_ (by assumption)) | (refine extSet ?_ (by first | (simp; done) | (simp; omega) | omega) _)))⟩
end Go.Proofs.Ytkokleicgpimbaa
