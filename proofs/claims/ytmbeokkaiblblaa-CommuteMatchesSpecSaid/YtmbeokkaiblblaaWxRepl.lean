/- The walk of replaced, and the law of the involution. -/
import Derived.Test.YtmbeokkaiblblaaWxApply
namespace Go.Proofs.Ytmbeokkaiblblaa
open Go.RowKit
set_option maxRecDepth 10000
set_option linter.unusedSimpArgs false

def sp_mkHunk : SpecF := pureSp false [.int .i64, .slice .str, .slice .str] (fun _ => True) (fun (a', o', n', _) => .v true [.d (.slice tHk) [(a', o', n')]])
theorem mkHunk_sp : SpFact 46 sp_mkHunk := by
  refine ⟨⟨Try.f46, rfl, rfl, rfl, pureSp_ok (env1_fine (sp := []) (eq := []) (inl := []) (cl := [11]) True.intro True.intro True.intro) rfl (fun ⟨_, _, _, _⟩ _ => rfl) ?_⟩, pureSp_loc _ _ _ _⟩
  rintro ⟨a, o, n, u⟩ - -
  (refine fnM_of rfl rfl rfl rfl ?_; dsimp only [params, argAV, Ty.leaves, Ty.isSt])
  (repeat' (first | (with_reducible refine Step.mk True.intro ?_) | (with_reducible refine Step.mk ?_ ?_; focus (((try simp only [true_and, and_true, and_self, kmin, kmax, decide_eq_true_eq, decide_eq_false_iff_not, castD_self, castL_self, List.length_cons, List.length_nil, List.length_append, Int.natCast_add] at *) <;> omega))) | (with_reducible refine Step.mk ?_ ?_) | (with_reducible refine Way.t1 ?_) | (with_reducible refine Way.f1 ?_) | ((with_reducible refine Way.dec (fun _ => ?_) (fun _ => ?_)) <;> try (exfalso; omega)) | (with_reducible refine Way.nt ?_) | (with_reducible refine Way.mk (fun _ => ?_) (fun _ => ?_)) | (with_reducible refine Drawn.mk (by kernel_rfl) ?_) | (refine Run.mk ?_)))
  exact Ret.mk rfl
def bA : ByteArray := ⟨#[97]⟩
def bB : ByteArray := ⟨#[98]⟩
def bC' : ByteArray := ⟨#[99]⟩
def bD : ByteArray := ⟨#[100]⟩
theorem rep1 : (apF [(1, [⟨#[98]⟩], [⟨#[99]⟩, ⟨#[100]⟩])] [⟨#[97]⟩, ⟨#[98]⟩]).1 = 0 := by decide +kernel
theorem rep2 : ivC [(1, [⟨#[98]⟩], [⟨#[99]⟩, ⟨#[100]⟩])] = 0 := by decide +kernel
theorem rep3 : apL [(1, [⟨#[98]⟩], [⟨#[99]⟩, ⟨#[100]⟩])] [⟨#[97]⟩, ⟨#[98]⟩] = [⟨#[97]⟩, ⟨#[99]⟩, ⟨#[100]⟩] := by decide +kernel
theorem rep4 : ivP [(1, [⟨#[98]⟩], [⟨#[99]⟩, ⟨#[100]⟩])] = [(1, [⟨#[99]⟩, ⟨#[100]⟩], [⟨#[98]⟩])] := by decide +kernel
theorem replaced_sp : SpFact 21 (pureSp false [] (fun _ => True) (fun _ => .v false [.d .bool true])) := by
  refine ⟨⟨Try.f21, rfl, rfl, rfl, pureSp_ok (env1_fine (sp := [(46, sp_mkHunk), (13, sp_Apply), (15, sp_Invert), (19, sp_Strings), (20, sp_Patch)]) (eq := []) (inl := []) (cl := [6, 7, 11, 30, 35, 36])
    ⟨mkHunk_sp, Apply_sp, Invert_sp, Strings_sp, Patch_sp, True.intro⟩ True.intro True.intro) rfl (fun _ _ => rfl) ?_⟩, pureSp_loc _ _ _ _⟩
  rintro u - -
  (refine fnM_of rfl rfl rfl rfl ?_; dsimp only [params, argAV, Ty.leaves, Ty.isSt])
  (repeat' (first | (with_reducible refine Step.mk True.intro ?_) | (with_reducible refine Step.mk ?_ ?_; focus (((try simp only [true_and, and_true, and_self, kmin, kmax, decide_eq_true_eq, decide_eq_false_iff_not, castD_self, castL_self, List.length_cons, List.length_nil, List.length_append, Int.natCast_add] at *) <;> omega))) | (with_reducible refine Step.mk ?_ ?_) | (with_reducible refine Way.t1 ?_) | (with_reducible refine Way.f1 ?_) | ((with_reducible refine Way.dec (fun _ => ?_) (fun _ => ?_)) <;> try (exfalso; omega)) | (with_reducible refine Way.nt ?_) | (with_reducible refine Way.mk (fun _ => ?_) (fun _ => ?_)) | (with_reducible refine Drawn.mk (by kernel_rfl) ?_) | (refine Run.mk ?_)))
  · refine Ret.mk (congrArg (fun b => AV.v false [.d .bool b]) (decide_eq_true ?_))
    exact rep4
  · rename_i h
    exact absurd rep3 h
  · rename_i h
    exact absurd rep2 h
  · rename_i h
    exact absurd rep1 h

theorem inv_good {p : List Hk} (h : ivC p = 0) : ivC (ivP p) = 0 ∧ ivP (ivP p) = p := by
  have h1 : pC p = 0 := by
    unfold ivC at h
    split at h
    · assumption
    · contradiction
  have h2 : pC (pInv 0 p) = 0 := by
    unfold ivC at h
    rw [if_pos h1] at h
    split at h
    · assumption
    · exact absurd h (by decide)
  have e : ivP p = pInv 0 p := if_pos ⟨h1, h2⟩
  have e2 : pInv 0 (pInv 0 p) = p := pInv_inv p 0 0 rfl
  rw [e]
  constructor
  · unfold ivC; rw [if_pos h2, e2, if_pos h1]
  · unfold ivP; rw [e2, if_pos ⟨h2, h1⟩]
theorem law_TextpatchInvolution : SpFact 5 (pureSp false [tPat] (fun _ => True) (fun _ => .v false [.d .bool true])) := by
  refine ⟨⟨Try.f5, rfl, rfl, rfl, pureSp_ok (env_fine (sp := [(15, sp_Invert), (21, pureSp false [] (fun _ => True) (fun _ => .v false [.d .bool true])), (20, sp_Patch)]) (eq := [])
    ⟨Invert_sp, replaced_sp, Patch_sp, True.intro⟩ True.intro) rfl (fun _ _ => rfl) ?_⟩, pureSp_loc _ _ _ _⟩
  rintro ⟨p, u⟩ - -
  change List Hk at p
  have hg := @inv_good p
  replace hg := Lib.hid hg
  (refine fnM_of rfl rfl rfl rfl ?_; dsimp only [params, argAV, Ty.leaves, Ty.isSt])
  (repeat' (first | (with_reducible refine Step.mk True.intro ?_) | (with_reducible refine Step.mk ?_ ?_; focus (((try simp only [true_and, and_true, and_self, kmin, kmax, decide_eq_true_eq, decide_eq_false_iff_not, castD_self, castL_self, List.length_cons, List.length_nil, List.length_append, Int.natCast_add] at *) <;> omega))) | (with_reducible refine Step.mk ?_ ?_) | (with_reducible refine Way.t1 ?_) | (with_reducible refine Way.f1 ?_) | ((with_reducible refine Way.dec (fun _ => ?_) (fun _ => ?_)) <;> try (exfalso; omega)) | (with_reducible refine Way.nt ?_) | (with_reducible refine Way.mk (fun _ => ?_) (fun _ => ?_)) | (with_reducible refine Drawn.mk (by kernel_rfl) ?_) | (refine Run.mk ?_)))
  · exact Ret.mk rfl
  · rename_i h1 h2 h3
    exact absurd (hg.out h1).2 h3
  · rename_i h1 h2
    exact absurd (hg.out h1).1 h2
  · exact Ret.mk rfl
end Go.Proofs.Ytmbeokkaiblblaa
