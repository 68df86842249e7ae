/- revset.one, for ancestors and heads. -/
import Derived.Test.YtgdlbpihkodeoaaWxSet
import Derived.Test.YtgdlbpihkodeoaaWxOf
namespace Go.Proofs.Ytgdlbpihkodeoaa
open Go.RowKit
set_option maxRecDepth 20000
set_option linter.unusedSimpArgs false

theorem selI_pre {l : List Cm} {s : List Bool} (hC : hC l = 0) (h : s.length = l.length) : OfPre l (selI s) :=
  ⟨hC, by have := selK_len (fun i => s.getD i false) s.length; have := hC_len hC; show (selK _ _).length ≤ _; omega, fun n hn => by obtain ⟨i, h1, _, h3⟩ := selI_mem.1 hn; omega⟩
noncomputable def sp_one : SpecF := ownSp false [.slice tCm, .int .i64, .slice .bool] 4 .bool (fun (l', k', s', _) => hC l' = 0 ∧ s'.length = l'.length ∧ (k' = 8 ∨ k' = 12)) (fun (l', k', s', _) => unB l' k' s')
theorem one_sp : SpFact 58 sp_one := by
  refine ⟨⟨Try.f58, rfl, rfl, rfl, ownSp_ok (env_fine (sp := [(59, sp_minus), (46, sp_Of), (68, sp_selected), (70, sp_related)]) (eq := []) ⟨minus_sp, Of_sp, selected_sp, related_sp, True.intro⟩ True.intro) rfl (fun h => by cases h) ?_⟩, ownSp_loc _ _ _ _ _ _⟩
  rintro ⟨l, k, s, u⟩ - ⟨hC, he, hk⟩
  change List Cm at l
  change List Bool at s
  change Int at k
  have he : s.length = l.length := he
  have hl : l.length ≤ 60 := hC_len hC
  have p1 : OfPre l (selI s) := selI_pre hC he
  have p2 : OfPre l (selI (relB l s)) := selI_pre hC (rlS_len l s _)
  have p3 : (ancB l (selI (relB l s))).length = l.length := ancB_len _ _
  have p4 : (relB l s).length = l.length := rlS_len l s _
  replace hC := Lib.hid hC
  rcases hk with hk | hk
  · obtain rfl : k = 8 := hk
    dsimp only
    have e : unB l 8 s = ancB l (selI s) := if_pos rfl
    rw [e]
    (refine fnM_of rfl rfl rfl rfl ?_; dsimp only [params, argAV, Ty.leaves, Ty.isSt])
    (repeat' (first | (with_reducible refine Cend.go ?_) | (with_reducible refine Step.mk True.intro ?_) | (with_reducible refine Step.mk ?_ ?_; focus (((try simp only [true_and, and_true, and_self, kmin, kmax, decide_eq_true_eq, decide_eq_false_iff_not, castD_self, castL_self, List.length_cons, List.length_nil, List.length_append, Int.natCast_add] at *) <;> omega))) | (with_reducible refine Step.mk ?_ ?_) | (with_reducible refine Way.t1 ?_) | (with_reducible refine Way.f1 ?_) | ((with_reducible refine Way.dec (fun _ => ?_) (fun _ => ?_)) <;> try (exfalso; omega)) | (with_reducible refine Way.nt ?_) | (with_reducible refine Way.mk (fun _ => ?_) (fun _ => ?_)) | (with_reducible refine Drawn.mk (by kernel_rfl) ?_) | (refine Run.mk ?_)))
    exact Ret.mk (.inl ⟨_, rfl, rfl⟩)
  · obtain rfl : k = 12 := hk
    dsimp only
    have e : unB l 12 s = minB s (ancB l (selI (relB l s))) := if_neg (by decide)
    rw [e]
    (refine fnM_of rfl rfl rfl rfl ?_; dsimp only [params, argAV, Ty.leaves, Ty.isSt])
    (repeat' (first | (with_reducible refine Cend.go ?_) | (with_reducible refine Step.mk True.intro ?_) | (with_reducible refine Step.mk ?_ ?_; focus (((try simp only [true_and, and_true, and_self, kmin, kmax, decide_eq_true_eq, decide_eq_false_iff_not, castD_self, castL_self, List.length_cons, List.length_nil, List.length_append, Int.natCast_add] at *) <;> omega))) | (with_reducible refine Step.mk ?_ ?_) | (with_reducible refine Way.t1 ?_) | (with_reducible refine Way.f1 ?_) | ((with_reducible refine Way.dec (fun _ => ?_) (fun _ => ?_)) <;> try (exfalso; omega)) | (with_reducible refine Way.nt ?_) | (with_reducible refine Way.mk (fun _ => ?_) (fun _ => ?_)) | (with_reducible refine Drawn.mk (by kernel_rfl) ?_) | (refine Run.mk ?_)))
    · exact ⟨hC.out, he, rfl⟩
    all_goals first | exact Ret.mk (.inl ⟨_, rfl, rfl⟩) | skip
end Go.Proofs.Ytgdlbpihkodeoaa
