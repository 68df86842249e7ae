/- The walk of the equality of patches. -/
import Derived.Test.YtppmhjaooiameaaDoorWxEq
import Derived.Test.YtppmhjaooiameaaDoorPatPure
namespace Go.Proofs.YtppmhjaooiameaaDoor
open Go.RowKit
set_option maxRecDepth 10000
set_option linter.unusedSimpArgs false

theorem hk_ext {a b : Hk} (h1 : a.1 = b.1) (h2 : a.2.1 = b.2.1) (h3 : a.2.2 = b.2.2) : a = b := Prod.ext h1 (Prod.ext h2 h3)
def sp_Patch : SpecF := pureSp true [tPat, tPat] (fun _ => True) (fun (a', b', _) => .v false [.d .bool (decide (a' = b'))])
theorem Patch_sp : SpFact 16 sp_Patch := by
  refine ⟨⟨Tryd.f16, rfl, rfl, rfl, pureSp_ok (env_fine (sp := [(11, sp_Strings)]) (eq := []) ⟨Strings_sp, True.intro⟩ True.intro) rfl (fun ⟨_, _, _⟩ _ => rfl) ?_⟩, pureSp_loc _ _ _ _⟩
  rintro ⟨a, b, u⟩ ⟨⟨ha, -⟩, ⟨hb, -⟩, -⟩ -
  change List Hk at a b
  rw [maxLen_eq] at ha hb
  dsimp only at ha hb
  (refine fnM_of rfl rfl rfl rfl ?_; dsimp only [params, argAV, Ty.leaves, Ty.isSt])
  (repeat' (first | (with_reducible refine Cend.go ?_) | (with_reducible refine Step.mk True.intro ?_) | (with_reducible refine Step.mk ?_ ?_; focus (((try simp only [true_and, and_true, and_self, kmin, kmax, decide_eq_true_eq, decide_eq_false_iff_not, castD_self, castL_self, List.length_cons, List.length_nil, List.length_append, Int.natCast_add] at *) <;> omega))) | (with_reducible refine Step.mk ?_ ?_) | (with_reducible refine Way.t1 ?_) | (with_reducible refine Way.f1 ?_) | ((with_reducible refine Way.dec (fun _ => ?_) (fun _ => ?_)) <;> try (exfalso; omega)) | (with_reducible refine Way.nt ?_) | (with_reducible refine Way.mk (fun _ => ?_) (fun _ => ?_)) | (with_reducible refine Drawn.mk (by kernel_rfl) ?_) | (refine Run.mk ?_)))
  · rename_i h
    have h : a.length = b.length := by omega
    refine loop_by (X := Nat) (fun i => [.put 2 (.v false [.p 2 0]), .put 3 (.v false [.p 3 0]), .put 5 (.v false [.d (.int .i64) (i : Int)])]) (fun _ => [.put 2 (.box 25 [.d (.slice tHk) a]), .put 3 (.box 25 [.d (.slice tHk) b])]) (fun i => i ≤ a.length ∧ a.take i = b.take i) (fun i => a.length - i) 0 ⟨Nat.zero_le _, rfl⟩ ?_ ?_
    · (refine Wk.keep ?_ ?_ <;> repeat' (first | exact True.intro | refine And.intro rfl ?_ | refine And.intro (congrArg (fun z : Int => AV.v false [Lf.d (.int .i64) z]) (by first | omega | (simp only [Int.natCast_add, List.length_cons, List.length_append, List.length_nil]; omega))) ?_ | refine And.intro ?_ ?_))
    rintro i ⟨hi, ht⟩
    by_cases hlt : i < a.length
    · have ga := getD_at (a := a) tHk.dflt hlt
      have gb := getD_at (a := b) tHk.dflt (show i < b.length by omega)
      have no : (¬ (a.getD ((i : Int)).toNat tHk.dflt) = b.getD ((i : Int)).toNat tHk.dflt) → ¬ a = b := fun h2 => by
        rw [ga, gb] at h2
        exact ne_at hlt (show i < b.length by omega) h2
      replace ht := Lib.hid ht
      replace ga := Lib.hid ga
      replace gb := Lib.hid gb
      replace no := Lib.hid no
      (repeat' (first | (with_reducible refine Cend.go ?_) | (with_reducible refine Step.mk True.intro ?_) | (with_reducible refine Step.mk ?_ ?_; focus (((try simp only [true_and, and_true, and_self, kmin, kmax, decide_eq_true_eq, decide_eq_false_iff_not, castD_self, castL_self, List.length_cons, List.length_nil, List.length_append, Int.natCast_add] at *) <;> omega))) | (with_reducible refine Step.mk ?_ ?_) | (with_reducible refine Way.t1 ?_) | (with_reducible refine Way.f1 ?_) | ((with_reducible refine Way.dec (fun _ => ?_) (fun _ => ?_)) <;> try (exfalso; omega)) | (with_reducible refine Way.nt ?_) | (with_reducible refine Way.mk (fun _ => ?_) (fun _ => ?_)) | (with_reducible refine Drawn.mk (by kernel_rfl) ?_) | (refine Run.mk ?_)))
      · rename_i x1 x2 x3
        have h2 : a.getD ((i : Int)).toNat tHk.dflt = b.getD ((i : Int)).toNat tHk.dflt := hk_ext x1 x2 x3
        rw [ga.out, gb.out] at h2
        (refine Back.by (i + 1) ?_ ?_ ?_; focus (refine Wk.keep ?_ ?_ <;> repeat' (first | exact True.intro | refine And.intro rfl ?_ | refine And.intro (congrArg (fun z : Int => AV.v false [Lf.d (.int .i64) z]) (by first | omega | (simp only [Int.natCast_add, List.length_cons, List.length_append, List.length_nil]; omega))) ?_ | refine And.intro ?_ ?_)))
        · exact ⟨hlt, take_next hlt (by omega) ht.out h2⟩
        · show a.length - (i + 1) < a.length - i; omega
      · rename_i x1 x2 x3
        (refine Ret.mk (show AV.v false [Lf.d .bool false] = AV.v false [Lf.d .bool _] from congrArg (fun z => AV.v false [Lf.d .bool z]) (Eq.symm (decide_eq_false (no.out fun e => x3 (congrArg (fun z : Hk => z.2.2) e))))))
      · rename_i x1 x2
        (refine Ret.mk (show AV.v false [Lf.d .bool false] = AV.v false [Lf.d .bool _] from congrArg (fun z => AV.v false [Lf.d .bool z]) (Eq.symm (decide_eq_false (no.out fun e => x2 (congrArg (fun z : Hk => z.2.1) e))))))
      · rename_i x1
        (refine Ret.mk (show AV.v false [Lf.d .bool false] = AV.v false [Lf.d .bool _] from congrArg (fun z => AV.v false [Lf.d .bool z]) (Eq.symm (decide_eq_false (no.out fun e => x1 (congrArg (fun z : Hk => z.1) e))))))
    · (repeat' (first | (with_reducible refine Cend.go ?_) | (with_reducible refine Step.mk True.intro ?_) | (with_reducible refine Step.mk ?_ ?_; focus (((try simp only [true_and, and_true, and_self, kmin, kmax, decide_eq_true_eq, decide_eq_false_iff_not, castD_self, castL_self, List.length_cons, List.length_nil, List.length_append, Int.natCast_add] at *) <;> omega))) | (with_reducible refine Step.mk ?_ ?_) | (with_reducible refine Way.t1 ?_) | (with_reducible refine Way.f1 ?_) | ((with_reducible refine Way.dec (fun _ => ?_) (fun _ => ?_)) <;> try (exfalso; omega)) | (with_reducible refine Way.nt ?_) | (with_reducible refine Way.mk (fun _ => ?_) (fun _ => ?_)) | (with_reducible refine Drawn.mk (by kernel_rfl) ?_) | (refine Run.mk ?_)))
      have : a = b := take_eq_all h (by rw [show a.length = i by omega]; exact ht)
      (refine Ret.mk (show AV.v false [Lf.d .bool true] = AV.v false [Lf.d .bool _] from congrArg (fun z => AV.v false [Lf.d .bool z]) (Eq.symm (decide_eq_true this))))
  · rename_i h
    (refine Ret.mk (show AV.v false [Lf.d .bool false] = AV.v false [Lf.d .bool _] from congrArg (fun z => AV.v false [Lf.d .bool z]) (Eq.symm (decide_eq_false (by rintro rfl; exact h rfl)))))
end Go.Proofs.YtppmhjaooiameaaDoor
