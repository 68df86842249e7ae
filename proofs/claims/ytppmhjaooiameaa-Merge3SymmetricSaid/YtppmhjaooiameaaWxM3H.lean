/- swapped; law Merge3Symmetric. -/
import Derived.Test.YtppmhjaooiameaaWxM3G
import Derived.Test.YtppmhjaooiameaaM3Law
namespace Go.Proofs.Ytppmhjaooiameaa
open Go.RowKit
set_option maxRecDepth 10000
set_option linter.unusedSimpArgs false

def sp_swapped : SpecF := pureSp false [.slice tCh] (fun (l', _) => l'.length ≤ 1000000) (fun (l', _) => .v false [.d (.slice tCh) (l'.map swC)])
theorem swapped_sp : SpFact 13 sp_swapped := by
  refine ⟨⟨Try.f13, rfl, rfl, rfl, pureSp_okF (env_fine (sp := []) (eq := []) True.intro True.intro) rfl (fun ⟨_, _⟩ _ => rfl) ?_⟩, pureSp_loc _ _ _ _⟩
  rintro ⟨l, u⟩ - hl
  change List Ch at l
  have hl : l.length ≤ 1000000 := hl
  (refine fnM_of rfl rfl rfl rfl ?_; dsimp only [params, argAV, Ty.leaves, Ty.isSt])
  (repeat' (first | (with_reducible refine Cend.go ?_) | (with_reducible refine Step.mk True.intro ?_) | (with_reducible refine Step.mk ?_ ?_; focus (((try simp only [true_and, and_true, and_self, kmin, kmax, decide_eq_true_eq, decide_eq_false_iff_not, castD_self, castL_self, List.length_cons, List.length_nil, List.length_append, Int.natCast_add] at *) <;> omega))) | (with_reducible refine Step.mk ?_ ?_) | (with_reducible refine Way.t1 ?_) | (with_reducible refine Way.f1 ?_) | ((with_reducible refine Way.dec (fun _ => ?_) (fun _ => ?_)) <;> try (exfalso; omega)) | (with_reducible refine Way.nt ?_) | (with_reducible refine Way.mk (fun _ => ?_) (fun _ => ?_)) | (with_reducible refine Drawn.mk (by kernel_rfl) ?_) | (refine Run.mk ?_)))
  refine loop_by (X := Nat × List Ch) (fun x => [.put 0 (.v false [.d (.slice tCh) l]), .put 3 (.v false [.o 91]), .put 4 (.v false [.d (.int .i64) (x.1 : Int)])])
    (fun x => [.put 91 (.row 40 tCh x.2)]) (fun x => x.1 ≤ l.length ∧ x.2 = (l.take x.1).map swC ∧ x.2.length = x.1) (fun x => l.length - x.1) (0, []) ⟨Nat.zero_le _, rfl, rfl⟩ ?_ ?_
  · refine (Wk.nilrow 3 91 40 tCh rfl).trans ?_
    (refine Wk.keep ?_ ?_ <;> repeat' (first | exact True.intro | refine And.intro rfl ?_ | refine And.intro (congrArg (fun z : Int => AV.v false [Lf.d (.int .i64) z]) (by first | omega | (simp only [Int.natCast_add, List.length_cons, List.length_append, List.length_nil]; omega))) ?_ | refine And.intro ?_ ?_))
  rintro ⟨k, M⟩ ⟨hk, hM, hMl⟩
  dsimp only at hk hM hMl ⊢
  by_cases hlt : k < l.length
  · have hg : l.getD ((k : Int)).toNat tCh.dflt = l[k] := getD_at tCh.dflt hlt
    replace hM := Lib.hid hM
    replace hg := Lib.hid hg
    (repeat' (first | (with_reducible refine Cend.go ?_) | (with_reducible refine Step.mk True.intro ?_) | (with_reducible refine Step.mk ?_ ?_; focus (((try simp only [true_and, and_true, and_self, kmin, kmax, decide_eq_true_eq, decide_eq_false_iff_not, castD_self, castL_self, List.length_cons, List.length_nil, List.length_append, Int.natCast_add] at *) <;> omega))) | (with_reducible refine Step.mk ?_ ?_) | (with_reducible refine Way.t1 ?_) | (with_reducible refine Way.f1 ?_) | ((with_reducible refine Way.dec (fun _ => ?_) (fun _ => ?_)) <;> try (exfalso; omega)) | (with_reducible refine Way.nt ?_) | (with_reducible refine Way.mk (fun _ => ?_) (fun _ => ?_)) | (with_reducible refine Drawn.mk (by kernel_rfl) ?_) | (refine Run.mk ?_)))
    refine Back.by (k + 1, M ++ [swC (l.getD ((k : Int)).toNat tCh.dflt)]) ?_ ?_ ?_
    · (refine Wk.ren [(91, 31)] rfl ?_ ?_ <;> repeat' (first | exact True.intro | refine And.intro rfl ?_ | refine And.intro (congrArg (fun z : Int => AV.v false [Lf.d (.int .i64) z]) (by first | omega | (simp only [Int.natCast_add, List.length_cons, List.length_append, List.length_nil]; omega))) ?_ | refine And.intro ?_ ?_))
    · refine ⟨hlt, ?_, ?_⟩
      · dsimp only
        rw [List.take_add_one, List.getElem?_eq_getElem hlt, Option.toList_some, List.map_append, ← hM.out, hg.out]
        rfl
      · dsimp only
        rw [List.length_append, List.length_singleton]; omega
    · show l.length - (k + 1) < l.length - k; omega
  · have e : l.take k = l := List.take_of_length_le (by omega)
    rw [e] at hM
    subst hM
    (repeat' (first | (with_reducible refine Cend.go ?_) | (with_reducible refine Step.mk True.intro ?_) | (with_reducible refine Step.mk ?_ ?_; focus (((try simp only [true_and, and_true, and_self, kmin, kmax, decide_eq_true_eq, decide_eq_false_iff_not, castD_self, castL_self, List.length_cons, List.length_nil, List.length_append, Int.natCast_add] at *) <;> omega))) | (with_reducible refine Step.mk ?_ ?_) | (with_reducible refine Way.t1 ?_) | (with_reducible refine Way.f1 ?_) | ((with_reducible refine Way.dec (fun _ => ?_) (fun _ => ?_)) <;> try (exfalso; omega)) | (with_reducible refine Way.nt ?_) | (with_reducible refine Way.mk (fun _ => ?_) (fun _ => ?_)) | (with_reducible refine Drawn.mk (by kernel_rfl) ?_) | (refine Run.mk ?_)))
    exact Ret.mk ⟨rfl, .frz rfl, True.intro⟩
theorem law_Merge3Symmetric : SpFact 4 (pureSp false [.slice .str, .slice .str, .slice .str] (fun _ => True) (fun _ => .v false [.d .bool true])) := by
  refine ⟨⟨Try.f4, rfl, rfl, rfl, pureSp_ok (env_fine (sp := [(9, sp_Merge), (13, sp_swapped), (11, sp_Chunks), (12, sp_opp)]) (eq := []) ⟨Merge_sp, swapped_sp, Chunks_sp, opposed_sp, True.intro⟩ True.intro) rfl (fun _ _ => rfl) ?_⟩, pureSp_loc _ _ _ _⟩
  rintro ⟨b, l, r, u⟩ - -
  change List ByteArray at b l r
  have hlen : (mgV b l r).length ≤ 1000000 := Nat.le_trans (mgV_len b l r) (by decide)
  have hsw := @mgV_sw b l r
  replace hsw := Lib.hid hsw
  (refine fnM_of rfl rfl rfl rfl ?_; dsimp only [params, argAV, Ty.leaves, Ty.isSt])
  (repeat' (first | (with_reducible refine Cend.go ?_) | (with_reducible refine Step.mk True.intro ?_) | (with_reducible refine Step.mk ?_ ?_; focus (((try simp only [true_and, and_true, and_self, kmin, kmax, decide_eq_true_eq, decide_eq_false_iff_not, castD_self, castL_self, List.length_cons, List.length_nil, List.length_append, Int.natCast_add] at *) <;> omega))) | (with_reducible refine Step.mk ?_ ?_) | (with_reducible refine Way.t1 ?_) | (with_reducible refine Way.f1 ?_) | ((with_reducible refine Way.dec (fun _ => ?_) (fun _ => ?_)) <;> try (exfalso; omega)) | (with_reducible refine Way.nt ?_) | (with_reducible refine Way.mk (fun _ => ?_) (fun _ => ?_)) | (with_reducible refine Drawn.mk (by kernel_rfl) ?_) | (refine Run.mk ?_)))
  all_goals first
    | exact Ret.mk rfl
    | (rename_i q1 q2; refine Ret.mk ?_; show AV.v false [Lf.d .bool (decide (mgV b r l = (mgV b l r).map swC))] = _; rw [decide_eq_true (hsw.out q1)])
    | (rename_i q1 q2 q3; exact absurd (hsw.out q1) q3)
end Go.Proofs.Ytppmhjaooiameaa
