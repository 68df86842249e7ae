/- The law of the empty patch. -/
import Derived.Test.YthacjpemeaekdaaWxComp
import Derived.Test.YthacjpemeaekdaaWxRepl
import Derived.Test.YthacjpemeaekdaaWxGrown
import Derived.Test.YthacjpemeaekdaaWxEqPat
import Derived.Test.YthacjpemeaekdaaComIdPure
namespace Go.Proofs.Ythacjpemeaekdaa
open Go.RowKit
set_option maxRecDepth 10000
set_option linter.unusedSimpArgs false

theorem id_back {p : List Hk} {t : List ByteArray} (h1 : ivC p = 0) (h2 : coC p (ivP p) = 0) (h3 : (apF p t).1 = 0) : (apF (coP p (ivP p)) t).1 = 0 ∧ apL (coP p (ivP p)) t = t ∧ ((apL p t).length : Int) = t.length + pGrow p ∧ t.length ≤ 120 ∧ (apL p t).length ≤ 120 := by
  obtain ⟨u1, u2⟩ := undo_law h3 h1
  obtain ⟨a1, a2⟩ := co_apply h3 u1 h2
  obtain ⟨-, v2, v3, v4, -⟩ := ap_apply h3
  exact ⟨a1, a2.trans u2, v3.len, vC_len _ v2, v4⟩
theorem law_TextpatchIdentity : SpFact 10 (pureSp false [tPat, .slice .str] (fun _ => True) (fun _ => .v false [.d .bool true])) := by
  refine ⟨⟨Try.f10, rfl, rfl, rfl, pureSp_ok (env_fine (sp := [(28, sp_PValidate), (27, sp_Apply), (29, sp_Invert), (23, sp_Compose), (30, sp_grown), (26, pureSp false [] (fun _ => True) (fun _ => .v false [.d .bool true])), (19, sp_Strings), (25, sp_Patch)]) (eq := [])
    ⟨PValidate_sp, Apply_sp, Invert_sp, Compose_sp, grown_sp, replaced_sp, Strings_sp, Patch_sp, True.intro⟩ True.intro) rfl (fun _ _ => rfl) ?_⟩, pureSp_loc _ _ _ _⟩
  rintro ⟨p, t, u⟩ - -
  change List Hk at p
  change List ByteArray at t
  have h1 := @id_right p
  have h2 := @id_left p
  have h3 := @id_back p t
  have h4 := @pC_ok p
  replace h1 := Lib.hid h1
  replace h2 := Lib.hid h2
  replace h3 := Lib.hid h3
  replace h4 := Lib.hid h4
  (refine fnM_of rfl rfl rfl rfl ?_; dsimp only [params, argAV, Ty.leaves, Ty.isSt])
  (repeat' (first | (with_reducible refine Step.mk True.intro ?_) | (with_reducible refine Step.mk ?_ ?_; focus (((try simp only [true_and, and_true, and_self, kmin, kmax, decide_eq_true_eq, decide_eq_false_iff_not, castD_self, castL_self, List.length_cons, List.length_nil, List.length_append, Int.natCast_add] at *) <;> omega))) | (with_reducible refine Step.mk ?_ ?_) | (with_reducible refine Way.t1 ?_) | (with_reducible refine Way.f1 ?_) | ((with_reducible refine Way.dec (fun _ => ?_) (fun _ => ?_)) <;> try (exfalso; omega)) | (with_reducible refine Way.nt ?_) | (with_reducible refine Way.mk (fun _ => ?_) (fun _ => ?_)) | (with_reducible refine Drawn.mk (by kernel_rfl) ?_) | (refine Run.mk ?_)))
  all_goals try exact Ret.mk rfl
  · rename_i a1 a2 a3 a4 a5 a6 a7 a8 a9 a10
    obtain ⟨-, -, -, -, b⟩ := h3.out a6 a7 a8
    show ((apL p t).length : Int) ≤ 9223372036854775807
    omega
  · rename_i a1 a2 a3 a4 a5 a6 a7 a8 a9 a10
    obtain ⟨-, -, -, b, -⟩ := h3.out a6 a7 a8
    omega
  · rename_i a1 a2 a3 a4 a5 a6 a7 a8 a9 a10
    exact ⟨(h4.out a1).2, (h4.out a1).1⟩
  · rename_i a1 a2 a3 a4 a5 a6 a7 a8 a9 a10
    obtain ⟨-, -, b1, -, b2⟩ := h3.out a6 a7 a8
    show (-9223372036854775808 : Int) ≤ (t.length : Int) + pGrow p ∧ (t.length : Int) + pGrow p ≤ 9223372036854775807
    omega
  · rename_i a1 a2 a3 a4 a5 a6 a7 a8 a9 a10 a11
    exact absurd (h3.out a6 a7 a8).2.2.1 a11
  · rename_i a1 a2 a3 a4 a5 a6 a7 a8 a9 a10
    exact absurd (h3.out a6 a7 a8).2.1 a10
  · rename_i a1 a2 a3 a4 a5 a6 a7 a8 a9
    exact absurd (h3.out a6 a7 a8).1 a9
  · rename_i a1 a2 a3 a4 a5
    exact absurd (h2.out a1).2 a5
  · rename_i a1 a2 a3 a4
    exact absurd (h1.out a1).2 a4
  · rename_i a1 a2 a3
    exact absurd (h2.out a1).1 a3
  · rename_i a1 a2
    exact absurd (h1.out a1).1 a2
end Go.Proofs.Ythacjpemeaekdaa
