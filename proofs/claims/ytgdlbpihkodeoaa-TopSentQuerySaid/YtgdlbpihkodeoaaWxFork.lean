/- The third reference's Bools; the laws' history with a fork. -/
import Derived.Test.YtgdlbpihkodeoaaWxJoinQ
import Derived.Test.YtgdlbpihkodeoaaWxEq3
namespace Go.Proofs.Ytgdlbpihkodeoaa
open Go.RowKit
set_option maxRecDepth 20000
set_option linter.unusedSimpArgs false

def sp_Bools3 : SpecF := pureSp true [.slice .bool, .slice .bool] (fun _ => True) (fun (a', b', _) => .v false [.d .bool (decide (a' = b'))])
theorem Bools3_sp : SpFact 34 sp_Bools3 := by
  refine ⟨⟨Try.f34, rfl, rfl, rfl, pureSp_ok (env_fine (sp := []) (eq := []) True.intro True.intro) rfl (fun ⟨_, _, _⟩ _ => rfl) ?_⟩, pureSp_loc _ _ _ _⟩
  rintro ⟨a, b, u⟩ ⟨⟨ha, -⟩, ⟨hb, -⟩, -⟩ -
  change List Bool at a b
  rw [maxLen_eq] at ha hb
  have ha : a.length ≤ 9223372036854775807 := ha
  have hb : b.length ≤ 9223372036854775807 := hb
  (refine fnM_of rfl rfl rfl rfl ?_; dsimp only [params, argAV, Ty.leaves, Ty.isSt])
  (repeat' (first | (with_reducible refine Cend.go ?_) | (with_reducible refine Step.mk True.intro ?_) | (with_reducible refine Step.mk ?_ ?_; focus (((try simp only [true_and, and_true, and_self, kmin, kmax, decide_eq_true_eq, decide_eq_false_iff_not, castD_self, castL_self, List.length_cons, List.length_nil, List.length_append, Int.natCast_add] at *) <;> omega))) | (with_reducible refine Step.mk ?_ ?_) | (with_reducible refine Way.t1 ?_) | (with_reducible refine Way.f1 ?_) | ((with_reducible refine Way.dec (fun _ => ?_) (fun _ => ?_)) <;> try (exfalso; omega)) | (with_reducible refine Way.nt ?_) | (with_reducible refine Way.mk (fun _ => ?_) (fun _ => ?_)) | (with_reducible refine Drawn.mk (by kernel_rfl) ?_) | (refine Run.mk ?_)))
  · rename_i h
    have h : a.length = b.length := by omega
    refine loop_by (X := Nat) (fun i => [.put 0 (.v false [.d (.slice .bool) a]), .put 1 (.v false [.d (.slice .bool) b]), .put 5 (.v false [.d (.int .i64) (i : Int)])]) (fun _ => []) (fun i => i ≤ a.length ∧ a.take i = b.take i) (fun i => a.length - i) 0 ⟨Nat.zero_le _, rfl⟩ ?_ ?_
    · (refine Wk.keep ?_ ?_ <;> repeat' (first | exact True.intro | refine And.intro rfl ?_ | refine And.intro (congrArg (fun z : Int => AV.v false [Lf.d (.int .i64) z]) (by first | omega | (simp only [Int.natCast_add, List.length_cons, List.length_append, List.length_nil]; omega))) ?_ | refine And.intro ?_ ?_))
    rintro i ⟨hi, ht⟩
    by_cases hlt : i < a.length
    · have ga := getD_at3 (a := a) Ty.bool.dflt hlt
      have gb := getD_at3 (a := b) Ty.bool.dflt (show i < b.length by omega)
      replace ht := Lib.hid ht
      replace ga := Lib.hid ga
      replace gb := Lib.hid gb
      (repeat' (first | (with_reducible refine Cend.go ?_) | (with_reducible refine Step.mk True.intro ?_) | (with_reducible refine Step.mk ?_ ?_; focus (((try simp only [true_and, and_true, and_self, kmin, kmax, decide_eq_true_eq, decide_eq_false_iff_not, castD_self, castL_self, List.length_cons, List.length_nil, List.length_append, Int.natCast_add] at *) <;> omega))) | (with_reducible refine Step.mk ?_ ?_) | (with_reducible refine Way.t1 ?_) | (with_reducible refine Way.f1 ?_) | ((with_reducible refine Way.dec (fun _ => ?_) (fun _ => ?_)) <;> try (exfalso; omega)) | (with_reducible refine Way.nt ?_) | (with_reducible refine Way.mk (fun _ => ?_) (fun _ => ?_)) | (with_reducible refine Drawn.mk (by kernel_rfl) ?_) | (refine Run.mk ?_)))
      · rename_i h2
        have h2 : a.getD ((i : Int)).toNat Ty.bool.dflt = b.getD ((i : Int)).toNat Ty.bool.dflt := h2
        rw [ga.out, gb.out] at h2
        (refine Back.by (i + 1) ?_ ?_ ?_; focus (refine Wk.keep ?_ ?_ <;> repeat' (first | exact True.intro | refine And.intro rfl ?_ | refine And.intro (congrArg (fun z : Int => AV.v false [Lf.d (.int .i64) z]) (by first | omega | (simp only [Int.natCast_add, List.length_cons, List.length_append, List.length_nil]; omega))) ?_ | refine And.intro ?_ ?_)))
        · exact ⟨hlt, take_next3 hlt (by omega) ht.out h2⟩
        · show a.length - (i + 1) < a.length - i; omega
      · rename_i h2
        have h2 : ¬ a.getD ((i : Int)).toNat Ty.bool.dflt = b.getD ((i : Int)).toNat Ty.bool.dflt := h2
        rw [ga.out, gb.out] at h2
        (refine Ret.mk (show AV.v false [Lf.d .bool false] = AV.v false [Lf.d .bool _] from congrArg (fun z => AV.v false [Lf.d .bool z]) (Eq.symm (decide_eq_false (ne_at3 hlt (show i < b.length by omega) h2)))))
    · (repeat' (first | (with_reducible refine Cend.go ?_) | (with_reducible refine Step.mk True.intro ?_) | (with_reducible refine Step.mk ?_ ?_; focus (((try simp only [true_and, and_true, and_self, kmin, kmax, decide_eq_true_eq, decide_eq_false_iff_not, castD_self, castL_self, List.length_cons, List.length_nil, List.length_append, Int.natCast_add] at *) <;> omega))) | (with_reducible refine Step.mk ?_ ?_) | (with_reducible refine Way.t1 ?_) | (with_reducible refine Way.f1 ?_) | ((with_reducible refine Way.dec (fun _ => ?_) (fun _ => ?_)) <;> try (exfalso; omega)) | (with_reducible refine Way.nt ?_) | (with_reducible refine Way.mk (fun _ => ?_) (fun _ => ?_)) | (with_reducible refine Drawn.mk (by kernel_rfl) ?_) | (refine Run.mk ?_)))
      have : a = b := take_eq_all3 h (by rw [show a.length = i by omega]; exact ht)
      (refine Ret.mk (show AV.v false [Lf.d .bool true] = AV.v false [Lf.d .bool _] from congrArg (fun z => AV.v false [Lf.d .bool z]) (Eq.symm (decide_eq_true this))))
  · rename_i h
    (refine Ret.mk (show AV.v false [Lf.d .bool false] = AV.v false [Lf.d .bool _] from congrArg (fun z => AV.v false [Lf.d .bool z]) (Eq.symm (decide_eq_false (by rintro rfl; exact h rfl)))))

def cm0 : Cm := ([], 0, 0, 0, ByteArray.empty)
def cm1 : Cm := ([0], 0, 0, 0, ByteArray.empty)
def forkL : List Cm := [cm0, cm1, cm1]
def forkT : Qx := .un 8 (.com 1)
theorem fork_hC : hC forkL = 0 := by decide
theorem fork_ev : evR forkL (forkT.at 0) = [true, true, false] := by
  rw [Qx.evR (t := forkT) ⟨.inl rfl, by show (0 : Int) ≤ 1 ∧ (1 : Int) ≤ 59; decide⟩]
  show ancB forkL (selI _) = _
  rw [← of_all (parOk_of fork_hC)]
  · decide
  · decide
def sp_Fork : SpecF := pureSp false [] (fun _ => True) (fun _ => .tu [(false, [.d (.slice tCm) forkL]), (false, [.d .bool true])])
theorem Fork_sp : SpFact 13 sp_Fork := by
  refine ⟨⟨Try.f13, rfl, rfl, rfl, pureSp_okF (env1_fine (sp := [(33, sp_Eval), (34, sp_Bools3)]) (eq := []) (inl := []) (cl := [6, 8, 10, 15, 26]) ⟨Eval_sp, Bools3_sp, True.intro⟩ True.intro True.intro) rfl (fun _ _ => rfl) ?_⟩, pureSp_loc _ _ _ _⟩
  rintro u - -
  have hp : EvPre forkL (forkT.at 0) := Qx.evPre fork_hC ⟨.inl rfl, by show (0 : Int) ≤ 1 ∧ (1 : Int) ≤ 59; decide⟩ (by decide)
  have he := fork_ev
  replace hp := Lib.hid hp
  replace he := Lib.hid he
  (refine fnM_of rfl rfl rfl rfl ?_; dsimp only [params, argAV, Ty.leaves, Ty.isSt])
  (repeat' (first | (with_reducible refine Cend.go ?_) | (with_reducible refine Step.mk True.intro ?_) | (with_reducible refine Step.mk ?_ ?_; focus (((try simp only [true_and, and_true, and_self, kmin, kmax, decide_eq_true_eq, decide_eq_false_iff_not, castD_self, castL_self, List.length_cons, List.length_nil, List.length_append, Int.natCast_add] at *) <;> omega))) | (with_reducible refine Step.mk ?_ ?_) | (with_reducible refine Way.t1 ?_) | (with_reducible refine Way.f1 ?_) | ((with_reducible refine Way.dec (fun _ => ?_) (fun _ => ?_)) <;> try (exfalso; omega)) | (with_reducible refine Way.nt ?_) | (with_reducible refine Way.mk (fun _ => ?_) (fun _ => ?_)) | (with_reducible refine Drawn.mk (by kernel_rfl) ?_) | (refine Run.mk ?_)))
  · exact hp.out
  have e : decide (evR forkL (forkT.at 0) = [true, true, false]) = true := decide_eq_true he.out
  exact Ret.mk ⟨⟨rfl, .inl rfl, True.intro⟩, ⟨rfl, .inl (congrArg (fun b => Lf.d .bool b) e), True.intro⟩, True.intro⟩
end Go.Proofs.Ytgdlbpihkodeoaa
