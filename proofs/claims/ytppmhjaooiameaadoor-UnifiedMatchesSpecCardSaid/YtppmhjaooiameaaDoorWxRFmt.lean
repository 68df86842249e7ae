/- The walks of the reference's Number, shown, Format. -/
import Derived.Test.YtppmhjaooiameaaDoorWxFmt
import Derived.Test.YtppmhjaooiameaaDoorWxRefAp
namespace Go.Proofs.YtppmhjaooiameaaDoor
open Go.RowKit
set_option maxRecDepth 20000
set_option linter.unusedSimpArgs false

theorem num_small : ∀ n : Fin 10, (⟨#[48, 49, 50, 51, 52, 53, 54, 55, 56, 57]⟩ : ByteArray).extract n.val (n.val + 1) = ⟨#[UInt8.ofNat (48 + n.val)]⟩ := by decide +kernel
theorem digit_at {n : Int} (h0 : 0 ≤ n) (h1 : n < 10) : (⟨#[48, 49, 50, 51, 52, 53, 54, 55, 56, 57]⟩ : ByteArray).extract n.toNat (n + 1).toNat = bs [UInt8.ofNat (48 + n.toNat)] := by
  have := num_small ⟨n.toNat, by omega⟩
  rw [show (n + 1).toNat = n.toNat + 1 by omega]
  exact this
theorem num_one {n : Int} (h0 : 0 ≤ n) (h1 : n < 10) : num n = [UInt8.ofNat (48 + n.toNat)] := by
  unfold num Lib.itoa
  rw [if_neg (by omega)]
  unfold Lib.decDigits
  rw [dif_pos (by omega)]
theorem num_more {n : Int} (h0 : 10 ≤ n) : num n = num (n / 10) ++ [UInt8.ofNat (48 + (n % 10).toNat)] := by
  unfold num Lib.itoa
  rw [if_neg (by omega), if_neg (by omega)]
  conv => lhs; unfold Lib.decDigits
  rw [dif_neg (by omega), show n.toNat / 10 = (n / 10).toNat by omega, show n.toNat % 10 = (n % 10).toNat by omega]
def sp_Num (k : Nat) : SpecF := pureSp true [.int .i64] (fun (n', _) => 0 ≤ (show Int from n') ∧ (show Int from n') < ((10 ^ (k + 1) : Nat) : Int)) (fun (n', _) => .v false [.d .str (bs (num n'))])
theorem Num0_sp : SpFact 45 (sp_Num 0) := by
  refine ⟨⟨Tryd.f45, rfl, rfl, rfl, pureSp_ok (env_fine (sp := []) (eq := []) True.intro True.intro) rfl (fun _ _ => rfl) ?_⟩, pureSp_loc _ _ _ _⟩
  rintro ⟨n, u⟩ - ⟨h0, h1⟩
  change Int at n
  change 0 ≤ n at h0
  have h1 : n < 10 := h1
  have e := digit_at h0 h1
  have e2 := num_one h0 h1
  replace e := Lib.hid e
  replace e2 := Lib.hid e2
  (refine fnM_of rfl rfl rfl rfl ?_; dsimp only [params, argAV, Ty.leaves, Ty.isSt])
  (repeat' (first | (with_reducible refine Cend.go ?_) | (with_reducible refine Step.mk True.intro ?_) | (with_reducible refine Step.mk ?_ ?_; focus (((try simp only [true_and, and_true, and_self, kmin, kmax, decide_eq_true_eq, decide_eq_false_iff_not, castD_self, castL_self, List.length_cons, List.length_nil, List.length_append, Int.natCast_add] at *) <;> omega))) | (with_reducible refine Step.mk ?_ ?_) | (with_reducible refine Way.t1 ?_) | (with_reducible refine Way.f1 ?_) | ((with_reducible refine Way.dec (fun _ => ?_) (fun _ => ?_)) <;> try (exfalso; omega)) | (with_reducible refine Way.nt ?_) | (with_reducible refine Way.mk (fun _ => ?_) (fun _ => ?_)) | (with_reducible refine Drawn.mk (by kernel_rfl) ?_) | (refine Run.mk ?_)))
  · exact ⟨h0, by omega, show n + 1 ≤ ((10 : Nat) : Int) by omega⟩
  · refine Ret.mk ?_
    show AV.v false [Lf.d Ty.str _] = AV.v false [Lf.d Ty.str (bs (num n))]
    rw [e2.out, ← e.out]
theorem Num_sp : ∀ k : Nat, k ≤ 10 → SpFact 45 (sp_Num k)
  | 0, _ => Num0_sp
  | k + 1, hk => by
    have ih := Num_sp k (by omega)
    refine ⟨⟨Tryd.f45, rfl, rfl, rfl, pureSp_ok (env_fine (sp := [(45, sp_Num k)]) (eq := []) ⟨ih, True.intro⟩ True.intro) rfl (fun _ _ => rfl) ?_⟩, pureSp_loc _ _ _ _⟩
    rintro ⟨n, u⟩ ⟨⟨-, hn⟩, -⟩ ⟨h0, h1⟩
    change Int at n
    change 0 ≤ n at h0
    change n ≤ 9223372036854775807 at hn
    have hp : ((10 ^ (k + 1 + 1) : Nat) : Int) = 10 * ((10 ^ (k + 1) : Nat) : Int) := by rw [Nat.pow_succ 10 (k + 1)]; omega
    have h1 : n < ((10 ^ (k + 1 + 1) : Nat) : Int) := h1
    rw [hp] at h1
    by_cases h10 : n < 10
    · have e := digit_at h0 h10
      have e2 := num_one h0 h10
      replace e := Lib.hid e
      replace e2 := Lib.hid e2
      replace hp := Lib.hid hp
      (refine fnM_of rfl rfl rfl rfl ?_; dsimp only [params, argAV, Ty.leaves, Ty.isSt])
      (repeat' (first | (with_reducible refine Cend.go ?_) | (with_reducible refine Step.mk True.intro ?_) | (with_reducible refine Step.mk ?_ ?_; focus (((try simp only [true_and, and_true, and_self, kmin, kmax, decide_eq_true_eq, decide_eq_false_iff_not, castD_self, castL_self, List.length_cons, List.length_nil, List.length_append, Int.natCast_add] at *) <;> omega))) | (with_reducible refine Step.mk ?_ ?_) | (with_reducible refine Way.t1 ?_) | (with_reducible refine Way.f1 ?_) | ((with_reducible refine Way.dec (fun _ => ?_) (fun _ => ?_)) <;> try (exfalso; omega)) | (with_reducible refine Way.nt ?_) | (with_reducible refine Way.mk (fun _ => ?_) (fun _ => ?_)) | (with_reducible refine Drawn.mk (by kernel_rfl) ?_) | (refine Run.mk ?_)))
      · exact ⟨h0, by omega, show n + 1 ≤ ((10 : Nat) : Int) by omega⟩
      · refine Ret.mk ?_
        show AV.v false [Lf.d Ty.str _] = AV.v false [Lf.d Ty.str (bs (num n))]
        rw [e2.out, ← e.out]
    · have e := digit_at (n := n % 10) (by omega) (by omega)
      have e2 := num_more (n := n) (by omega)
      have e3 := num_len (n / 10) (by omega) (by omega)
      have h3 : 0 ≤ n / 10 ∧ n / 10 < ((10 ^ (k + 1) : Nat) : Int) := ⟨by omega, by omega⟩
      replace e := Lib.hid e
      replace e2 := Lib.hid e2
      replace hp := Lib.hid hp
      replace h3 := Lib.hid h3
      (refine fnM_of rfl rfl rfl rfl ?_; dsimp only [params, argAV, Ty.leaves, Ty.isSt])
      (repeat' (first | (with_reducible refine Cend.go ?_) | (with_reducible refine Step.mk True.intro ?_) | (with_reducible refine Step.mk ?_ ?_; focus (((try simp only [true_and, and_true, and_self, kmin, kmax, decide_eq_true_eq, decide_eq_false_iff_not, castD_self, castL_self, List.length_cons, List.length_nil, List.length_append, Int.natCast_add] at *) <;> omega))) | (with_reducible refine Step.mk ?_ ?_) | (with_reducible refine Way.t1 ?_) | (with_reducible refine Way.f1 ?_) | ((with_reducible refine Way.dec (fun _ => ?_) (fun _ => ?_)) <;> try (exfalso; omega)) | (with_reducible refine Way.nt ?_) | (with_reducible refine Way.mk (fun _ => ?_) (fun _ => ?_)) | (with_reducible refine Drawn.mk (by kernel_rfl) ?_) | (refine Run.mk ?_)))
      · exact ⟨by omega, by omega, show n % 10 + 1 ≤ ((10 : Nat) : Int) by omega⟩
      · rw [e.out, bs_size, bs_size, List.length_singleton]
        omega
      · refine Ret.mk ?_
        rw [e2.out, ← bs_append, ← e.out]
        rfl
def sp_RShown : SpecF := pureSp true [.int .i64, .int .i64] (fun (a', n', _) => (0 ≤ (show Int from a') ∧ (show Int from a') ≤ 100000) ∧ (0 ≤ (show Int from n') ∧ (show Int from n') ≤ 100000)) (fun (a', n', _) => .v false [.d .str (bs (side a' n'))])
theorem RShown_sp : SpFact 24 sp_RShown := by
  refine ⟨⟨Tryd.f24, rfl, rfl, rfl, pureSp_ok (env_fine (sp := [(45, sp_Num 6)]) (eq := []) ⟨Num_sp 6 (by omega), True.intro⟩ True.intro) rfl (fun _ _ => rfl) ?_⟩, pureSp_loc _ _ _ _⟩
  rintro ⟨a, n, u⟩ - ⟨⟨h0, h1⟩, ⟨h2, h3⟩⟩
  change Int at a n
  change 0 ≤ a at h0
  change a ≤ 100000 at h1
  change 0 ≤ n at h2
  change n ≤ 100000 at h3
  have e1 := num_len n (by omega) (by omega)
  have e2 := num_len a (by omega) (by omega)
  have e3 := num_len (a + 1) (by omega) (by omega)
  (refine fnM_of rfl rfl rfl rfl ?_; dsimp only [params, argAV, Ty.leaves, Ty.isSt])
  (repeat' (first | (with_reducible refine Cend.go ?_) | (with_reducible refine Step.mk True.intro ?_) | (with_reducible refine Step.mk ?_ ?_; focus (((try simp only [true_and, and_true, and_self, kmin, kmax, decide_eq_true_eq, decide_eq_false_iff_not, castD_self, castL_self, List.length_cons, List.length_nil, List.length_append, Int.natCast_add] at *) <;> omega))) | (with_reducible refine Step.mk ?_ ?_) | (with_reducible refine Way.t1 ?_) | (with_reducible refine Way.f1 ?_) | ((with_reducible refine Way.dec (fun _ => ?_) (fun _ => ?_)) <;> try (exfalso; omega)) | (with_reducible refine Way.nt ?_) | (with_reducible refine Way.mk (fun _ => ?_) (fun _ => ?_)) | (with_reducible refine Drawn.mk (by kernel_rfl) ?_) | (refine Run.mk ?_)))
  all_goals first
    | exact (show 0 ≤ a + 1 ∧ a + 1 < ((10 ^ 7 : Nat) : Int) from ⟨by omega, by omega⟩)
    | exact (show 0 ≤ a ∧ a < ((10 ^ 7 : Nat) : Int) from ⟨by omega, by omega⟩)
    | exact (show 0 ≤ n ∧ n < ((10 ^ 7 : Nat) : Int) from ⟨by omega, by omega⟩)
    | (simp only [ByteArray.size_append, bs_size, (show (⟨#[44]⟩ : ByteArray).size = 1 from rfl)]; omega)
    | skip
  · refine Ret.mk ?_
    show AV.v false [Lf.d Ty.str (bs (num (a + 1)) ++ ⟨#[44]⟩ ++ bs (num n))] = AV.v false [Lf.d Ty.str (bs (side a n))]
    rw [side, if_pos (by omega), ← bs_append, ← bs_append]; rfl
  · refine Ret.mk ?_
    show AV.v false [Lf.d Ty.str (bs (num a) ++ ⟨#[44]⟩ ++ bs (num n))] = AV.v false [Lf.d Ty.str (bs (side a n))]
    rw [side, if_neg (by omega), ← bs_append, ← bs_append]; rfl
end Go.Proofs.YtppmhjaooiameaaDoor
