/- The walks of class and kind. -/
import Derived.Test.YtdpcbffmmndhcaaRows
import Derived.Test.YtdpcbffmmndhcaaWordPure
namespace Go.Proofs.Ytdpcbffmmndhcaa
open Go.RowKit

set_option maxHeartbeats 2000000 in
theorem class_any (c : Int) (w : World) (h0 : 0 ≤ c) (h1 : c ≤ 255) :
    Calls Try.prog 55 #[.int .u8 c] w fun e w' => e = .returned (.int .i64 (clsV c)) ∧ w = w' := by
  rcases cls_cases c h0 h1 with h | h | ⟨h, h'⟩ | h | ⟨h, h'⟩ | ⟨h, h'⟩ | ⟨h, h'⟩ | ⟨h, h'⟩ | ⟨h, h'⟩ | h | h | ⟨h, h'⟩ | ⟨h, h'⟩ | ⟨h, h'⟩
  all_goals try subst h
  all_goals
    go_enter Try.func55, Try.ntmps55
    go_wp2
    go_ret
    exact ⟨ret_int (by unfold clsV; first | rfl | (rw [if_pos (by omega)]) | (rw [if_neg (by omega), if_pos (by omega)]) | (rw [if_neg (by omega), if_neg (by omega)])), rfl⟩

set_option maxHeartbeats 2000000 in
theorem kind_any (c : Int) (w : World) (h0 : 0 ≤ c) (h1 : c ≤ 255) :
    Calls Try.prog 42 #[.int .u8 c] w fun e w' => e = .returned (.int .i64 (kindV c)) ∧ w = w' := by
  rcases cls_cases c h0 h1 with h | h | ⟨h, h'⟩ | h | ⟨h, h'⟩ | ⟨h, h'⟩ | ⟨h, h'⟩ | ⟨h, h'⟩ | ⟨h, h'⟩ | h | h | ⟨h, h'⟩ | ⟨h, h'⟩ | ⟨h, h'⟩
  all_goals try subst h
  all_goals
    go_enter Try.func42, Try.ntmps42
    go_wp2
  all_goals
    go_ret
    refine ⟨ret_int ?_, rfl⟩
  all_goals first | (rw [kindV_1 _ (by omega)]; done) | (rw [kindV_2 _ (by omega)]; done) | (rw [kindV_0 _ (by omega) (by omega)]; done) | (exfalso; first | (simp_all; done) | (simp_all; omega))
end Go.Proofs.Ytdpcbffmmndhcaa
