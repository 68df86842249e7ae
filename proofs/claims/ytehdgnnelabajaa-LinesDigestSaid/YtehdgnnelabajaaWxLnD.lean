/- The law LinesDigest. -/
import Derived.Test.YtehdgnnelabajaaDigOf
import Derived.Test.YtehdgnnelabajaaWxPair
import Derived.SizedLaws
namespace Go.Proofs.Ytehdgnnelabajaa
open Go.RowKit
set_option maxRecDepth 10000
set_option linter.unusedSimpArgs false

theorem law_LinesDigest : SpFact 7 (pureSp false [.slice .str, .str] (fun _ => True) (fun _ => .v false [.d .bool true])) := by
  refine ⟨⟨Try.f7, rfl, rfl, rfl, pureSp_ok (env1_fine (sp := [(11, sp_Split), (13, sp_Join), (20, sp_Of), (17, sp_Strings), (18, sp_pair)]) (eq := [(24, true)]) (inl := []) (cl := [])
    ⟨Split_sp, Join_sp, Of_sp, Strings_sp, pair_sp, True.intro⟩ ⟨eq_fault, True.intro⟩ True.intro) rfl (fun _ _ => rfl) ?_⟩, pureSp_loc _ _ _ _⟩
  rintro ⟨l, t, u⟩ - -
  change List ByteArray at l
  by_cases hl : sL t = l
  · subst hl
    have hj : ByteArray.size (jS (sL t)) ≤ 4096 := by
      unfold jS
      split
      · rename_i h
        exact (jC_zero h).2
      · decide
    have ho : ofC ((jS (sL t)).data.toList.map fun c => (c.toNat : Int)) = 0 := by
      unfold ofC
      rw [List.length_map, if_neg]
      have : (jS (sL t)).data.toList.length = ByteArray.size (jS (sL t)) := rfl
      omega
    replace hj := Lib.hid hj
    replace ho := Lib.hid ho
    (refine fnM_of rfl rfl rfl rfl ?_; dsimp only [params, argAV, Ty.leaves, Ty.isSt])
    (repeat' (first | (with_reducible refine Step.mk True.intro ?_) | (with_reducible refine Step.mk ?_ ?_; focus (((try simp only [true_and, and_true, and_self, kmin, kmax, decide_eq_true_eq, decide_eq_false_iff_not, castD_self, castL_self, List.length_cons, List.length_nil, List.length_append, Int.natCast_add] at *) <;> omega))) | (with_reducible refine Step.mk ?_ ?_) | (with_reducible refine Way.t1 ?_) | (with_reducible refine Way.f1 ?_) | ((with_reducible refine Way.dec (fun _ => ?_) (fun _ => ?_)) <;> try (exfalso; omega)) | (with_reducible refine Way.nt ?_) | (with_reducible refine Way.mk (fun _ => ?_) (fun _ => ?_)) | (with_reducible refine Drawn.mk (by kernel_rfl) ?_) | (refine Run.mk ?_)))
    all_goals first | exact Ret.mk rfl | (rename_i q; exact absurd ho.out q) | (rename_i q; exact absurd rfl q)
  · replace hl := Lib.hid hl
    (refine fnM_of rfl rfl rfl rfl ?_; dsimp only [params, argAV, Ty.leaves, Ty.isSt])
    (repeat' (first | (with_reducible refine Step.mk True.intro ?_) | (with_reducible refine Step.mk ?_ ?_; focus (((try simp only [true_and, and_true, and_self, kmin, kmax, decide_eq_true_eq, decide_eq_false_iff_not, castD_self, castL_self, List.length_cons, List.length_nil, List.length_append, Int.natCast_add] at *) <;> omega))) | (with_reducible refine Step.mk ?_ ?_) | (with_reducible refine Way.t1 ?_) | (with_reducible refine Way.f1 ?_) | ((with_reducible refine Way.dec (fun _ => ?_) (fun _ => ?_)) <;> try (exfalso; omega)) | (with_reducible refine Way.nt ?_) | (with_reducible refine Way.mk (fun _ => ?_) (fun _ => ?_)) | (with_reducible refine Drawn.mk (by kernel_rfl) ?_) | (refine Run.mk ?_)))
    all_goals first | exact Ret.mk rfl | (exfalso; rename_i q _; exact hl.out (Eq.symm q)) | (exfalso; rename_i q; exact hl.out (Eq.symm q)) | (exfalso; rename_i q _ _ _; exact hl.out (Eq.symm q)) | (exfalso; rename_i q _ _ _ _; exact hl.out (Eq.symm q)) | (exfalso; rename_i q _ _; exact hl.out (Eq.symm q)) | skip
end Go.Proofs.Ytehdgnnelabajaa
