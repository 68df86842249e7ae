/- The walks of the laws of commute. -/
import Derived.Test.YtmbeokkaiblblaaWxComm3
namespace Go.Proofs.Ytmbeokkaiblblaa
open Go.RowKit
set_option maxRecDepth 10000
set_option linter.unusedSimpArgs false

theorem exc1 : cmC [(0, [], [⟨#[97]⟩])] [(5, [⟨#[120]⟩], [])] = 0 := by decide +kernel
theorem exc2 : cmOk [(0, [], [⟨#[97]⟩])] [(5, [⟨#[120]⟩], [])] = true := by decide +kernel
theorem exc3 : cmA [(0, [], [⟨#[97]⟩])] [(5, [⟨#[120]⟩], [])] = [(4, [⟨#[120]⟩], [])] := by decide +kernel
theorem exc4 : cmB [(0, [], [⟨#[97]⟩])] [(5, [⟨#[120]⟩], [])] = [(0, [], [⟨#[97]⟩])] := by decide +kernel
theorem exchanged_sp : SpFact 23 (pureSp false [] (fun _ => True) (fun _ => .v false [.d .bool true])) := by
  refine ⟨⟨Try.f23, rfl, rfl, rfl, pureSp_ok (env1_fine (sp := [(46, sp_mkHunk), (22, sp_Commute), (20, sp_Patch)]) (eq := []) (inl := []) (cl := [6, 10, 25])
    ⟨mkHunk_sp, Commute_sp, Patch_sp, True.intro⟩ True.intro True.intro) rfl (fun _ _ => rfl) ?_⟩, pureSp_loc _ _ _ _⟩
  rintro u - -
  (refine fnM_of rfl rfl rfl rfl ?_; dsimp only [params, argAV, Ty.leaves, Ty.isSt])
  (repeat' (first | (with_reducible refine Step.mk True.intro ?_) | (with_reducible refine Step.mk ?_ ?_; focus (((try simp only [true_and, and_true, and_self, kmin, kmax, decide_eq_true_eq, decide_eq_false_iff_not, castD_self, castL_self, List.length_cons, List.length_nil, List.length_append, Int.natCast_add] at *) <;> omega))) | (with_reducible refine Step.mk ?_ ?_) | (with_reducible refine Way.t1 ?_) | (with_reducible refine Way.f1 ?_) | ((with_reducible refine Way.dec (fun _ => ?_) (fun _ => ?_)) <;> try (exfalso; omega)) | (with_reducible refine Way.nt ?_) | (with_reducible refine Way.mk (fun _ => ?_) (fun _ => ?_)) | (with_reducible refine Drawn.mk (by kernel_rfl) ?_) | (refine Run.mk ?_)))
  · refine Ret.mk (congrArg (fun b => AV.v false [.d .bool b]) (decide_eq_true ?_))
    exact exc4
  · rename_i h1 h2 h3
    exact absurd exc3 h3
  · rename_i h1 h2
    exact absurd (exc2.symm.trans h2) (by decide)
  · rename_i h
    exact absurd exc1 h
def spTrue : SpecF := pureSp false [] (fun _ => True) (fun _ => .v false [.d .bool true])
theorem law_CommuteTwice : SpFact 6 (pureSp false [tPat, tPat] (fun _ => True) (fun _ => .v false [.d .bool true])) := by
  refine ⟨⟨Try.f6, rfl, rfl, rfl, pureSp_ok (env_fine (sp := [(22, sp_Commute), (23, spTrue), (20, sp_Patch)]) (eq := [])
    ⟨Commute_sp, exchanged_sp, Patch_sp, True.intro⟩ True.intro) rfl (fun _ _ => rfl) ?_⟩, pureSp_loc _ _ _ _⟩
  rintro ⟨p, q, u⟩ - -
  change List Hk at p q
  have hg := @cm_twice p q
  have hc := @cm_code (cmA p q) (cmB p q)
  replace hg := Lib.hid hg
  replace hc := Lib.hid hc
  (refine fnM_of rfl rfl rfl rfl ?_; dsimp only [params, argAV, Ty.leaves, Ty.isSt])
  (repeat' (first | (with_reducible refine Step.mk True.intro ?_) | (with_reducible refine Step.mk ?_ ?_; focus (((try simp only [true_and, and_true, and_self, kmin, kmax, decide_eq_true_eq, decide_eq_false_iff_not, castD_self, castL_self, List.length_cons, List.length_nil, List.length_append, Int.natCast_add] at *) <;> omega))) | (with_reducible refine Step.mk ?_ ?_) | (with_reducible refine Way.t1 ?_) | (with_reducible refine Way.f1 ?_) | ((with_reducible refine Way.dec (fun _ => ?_) (fun _ => ?_)) <;> try (exfalso; omega)) | (with_reducible refine Way.nt ?_) | (with_reducible refine Way.mk (fun _ => ?_) (fun _ => ?_)) | (with_reducible refine Drawn.mk (by kernel_rfl) ?_) | (refine Run.mk ?_)))
  all_goals try exact Ret.mk rfl
  · rename_i h1 h2 h3 h4 h5 h6
    exact absurd (hg.out h2).2.2 h6
  · rename_i h1 h2 h3 h4 h5
    exact absurd (hg.out h2).2.1 h5
  · rename_i h1 h2 h3 h4
    exact Bool.noConfusion ((hg.out h2).1.symm.trans h4)
  · rename_i h1 h2 h3
    exact absurd (hc.out (hg.out h2).1).1 h3

theorem law_CommuteInverse : SpFact 8 (pureSp false [tPat, tPat] (fun _ => True) (fun _ => .v false [.d .bool true])) := by
  refine ⟨⟨Try.f8, rfl, rfl, rfl, pureSp_ok (env_fine (sp := [(22, sp_Commute), (15, sp_Invert), (23, spTrue), (20, sp_Patch)]) (eq := [])
    ⟨Commute_sp, Invert_sp, exchanged_sp, Patch_sp, True.intro⟩ True.intro) rfl (fun _ _ => rfl) ?_⟩, pureSp_loc _ _ _ _⟩
  rintro ⟨p, q, u⟩ - -
  change List Hk at p q
  have hg := @cm_inverse p q
  replace hg := Lib.hid hg
  (refine fnM_of rfl rfl rfl rfl ?_; dsimp only [params, argAV, Ty.leaves, Ty.isSt])
  (repeat' (first | (with_reducible refine Step.mk True.intro ?_) | (with_reducible refine Step.mk ?_ ?_; focus (((try simp only [true_and, and_true, and_self, kmin, kmax, decide_eq_true_eq, decide_eq_false_iff_not, castD_self, castL_self, List.length_cons, List.length_nil, List.length_append, Int.natCast_add] at *) <;> omega))) | (with_reducible refine Step.mk ?_ ?_) | (with_reducible refine Way.t1 ?_) | (with_reducible refine Way.f1 ?_) | ((with_reducible refine Way.dec (fun _ => ?_) (fun _ => ?_)) <;> try (exfalso; omega)) | (with_reducible refine Way.nt ?_) | (with_reducible refine Way.mk (fun _ => ?_) (fun _ => ?_)) | (with_reducible refine Drawn.mk (by kernel_rfl) ?_) | (refine Run.mk ?_)))
  all_goals try exact Ret.mk rfl
  · rename_i h1 h2 h3 h4 h5 h6 h7 h8 h9 h10
    exact absurd (hg.out h4 h2 h3 h7 h6).2.2 h10
  · rename_i h1 h2 h3 h4 h5 h6 h7 h8 h9
    exact absurd (hg.out h4 h2 h3 h7 h6).2.1 h9
  · rename_i h1 h2 h3 h4 h5 h6 h7 h8
    exact Bool.noConfusion ((hg.out h4 h2 h3 h7 h6).1.symm.trans h8)

theorem law_CommuteSameEffect : SpFact 11 (pureSp false [tPat, tPat, .slice .str] (fun _ => True) (fun _ => .v false [.d .bool true])) := by
  refine ⟨⟨Try.f11, rfl, rfl, rfl, pureSp_ok (env_fine (sp := [(22, sp_Commute), (13, sp_Apply), (23, spTrue), (19, sp_Strings)]) (eq := [])
    ⟨Commute_sp, Apply_sp, exchanged_sp, Strings_sp, True.intro⟩ True.intro) rfl (fun _ _ => rfl) ?_⟩, pureSp_loc _ _ _ _⟩
  rintro ⟨p, q, t, u⟩ - -
  change List Hk at p q
  change List ByteArray at t
  have hg := @cm_effect p q t
  replace hg := Lib.hid hg
  (refine fnM_of rfl rfl rfl rfl ?_; dsimp only [params, argAV, Ty.leaves, Ty.isSt])
  (repeat' (first | (with_reducible refine Step.mk True.intro ?_) | (with_reducible refine Step.mk ?_ ?_; focus (((try simp only [true_and, and_true, and_self, kmin, kmax, decide_eq_true_eq, decide_eq_false_iff_not, castD_self, castL_self, List.length_cons, List.length_nil, List.length_append, Int.natCast_add] at *) <;> omega))) | (with_reducible refine Step.mk ?_ ?_) | (with_reducible refine Way.t1 ?_) | (with_reducible refine Way.f1 ?_) | ((with_reducible refine Way.dec (fun _ => ?_) (fun _ => ?_)) <;> try (exfalso; omega)) | (with_reducible refine Way.nt ?_) | (with_reducible refine Way.mk (fun _ => ?_) (fun _ => ?_)) | (with_reducible refine Drawn.mk (by kernel_rfl) ?_) | (refine Run.mk ?_)))
  all_goals try exact Ret.mk rfl
  · rename_i h1 h2 h3 h4 h5 h6 h7 h8 h9
    exact absurd (hg.out h2 h3 h4 h5 h6).2.2 h9
  · rename_i h1 h2 h3 h4 h5 h6 h7 h8
    exact absurd (hg.out h2 h3 h4 h5 h6).2.1 h8
  · rename_i h1 h2 h3 h4 h5 h6 h7
    exact absurd (hg.out h2 h3 h4 h5 h6).1 h7

theorem law_CommuteRebases : SpFact 12 (pureSp false [tPat, tPat, .slice .str] (fun _ => True) (fun _ => .v false [.d .bool true])) := by
  refine ⟨⟨Try.f12, rfl, rfl, rfl, pureSp_ok (env_fine (sp := [(25, sp_Rebase), (13, sp_Apply), (23, spTrue), (19, sp_Strings)]) (eq := [])
    ⟨Rebase_sp, Apply_sp, exchanged_sp, Strings_sp, True.intro⟩ True.intro) rfl (fun _ _ => rfl) ?_⟩, pureSp_loc _ _ _ _⟩
  rintro ⟨p, q, t, u⟩ - -
  change List Hk at p q
  change List ByteArray at t
  have hg := @rb_effect p q t
  have hs := @rb_sym p q
  replace hg := Lib.hid hg
  replace hs := Lib.hid hs
  (refine fnM_of rfl rfl rfl rfl ?_; dsimp only [params, argAV, Ty.leaves, Ty.isSt])
  (repeat' (first | (with_reducible refine Step.mk True.intro ?_) | (with_reducible refine Step.mk ?_ ?_; focus (((try simp only [true_and, and_true, and_self, kmin, kmax, decide_eq_true_eq, decide_eq_false_iff_not, castD_self, castL_self, List.length_cons, List.length_nil, List.length_append, Int.natCast_add] at *) <;> omega))) | (with_reducible refine Step.mk ?_ ?_) | (with_reducible refine Way.t1 ?_) | (with_reducible refine Way.f1 ?_) | ((with_reducible refine Way.dec (fun _ => ?_) (fun _ => ?_)) <;> try (exfalso; omega)) | (with_reducible refine Way.nt ?_) | (with_reducible refine Way.mk (fun _ => ?_) (fun _ => ?_)) | (with_reducible refine Drawn.mk (by kernel_rfl) ?_) | (refine Run.mk ?_)))
  all_goals try exact Ret.mk rfl
  · rename_i h1 h2 h3 h4 h5 h6 h7 h8 h9 h10 h11
    exact absurd (hg.out h4 (h3.symm.trans h4) h5 h6 h7 h8).2.2 h11
  · rename_i h1 h2 h3 h4 h5 h6 h7 h8 h9 h10
    exact absurd (hg.out h4 (h3.symm.trans h4) h5 h6 h7 h8).2.1 h10
  · rename_i h1 h2 h3 h4 h5 h6 h7 h8 h9
    exact absurd (hg.out h4 (h3.symm.trans h4) h5 h6 h7 h8).1 h9
  · rename_i h1 h2 h3
    exact absurd (hs.out h1 h2) h3
end Go.Proofs.Ytmbeokkaiblblaa
