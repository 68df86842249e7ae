/- The reference's Clean; opposed; law Merge3ResolveMatchesSpec. -/
import Derived.Test.YtppmhjaooiameaaWxM3F
import Derived.Test.YtppmhjaooiameaaWxMerge
namespace Go.Proofs.Ytppmhjaooiameaa
open Go.RowKit
set_option maxRecDepth 10000
set_option linter.unusedSimpArgs false

theorem RClean_sp : SpFact 18 sp_Clean := by
  refine ⟨⟨Try.f18, rfl, rfl, rfl, pureSp_okF (env_fine (sp := [(41, sp_check), (42, sp_Conf), (19, sp_RResolve)]) (eq := []) ⟨CFault_sp, Conf_sp, RResolve_sp, True.intro⟩ True.intro) rfl (fun ⟨_, _⟩ _ => rfl) ?_⟩, pureSp_loc _ _ _ _⟩
  rintro ⟨l, u⟩ - -
  change List Ch at l
  by_cases hv0 : ckC l = 0
  · obtain ⟨hlen, -⟩ := ckC_all.1 hv0
    have hl6 : l.length ≤ 1000000 := by omega
    have hv := Lib.hid hv0
    by_cases hn : nCf l = 0
    · have e0 : rsF l [] = if 120 < (rsN l []).length then (10, -1) else (0, 0) := by
        unfold rsF
        rw [if_neg (fun z => z hv0), if_neg (by rw [hn]; exact fun z => z rfl)]
        rfl
      have e1 : clF l = rsF l [] := by unfold clF; rw [e0, if_neg (fun z => z hv0), if_neg (fun z => z hn)]
      by_cases h120 : 120 < (rsN l []).length
      · have e4 : rsF l [] = (10, -1) := e0.trans (if_pos h120)
        have e5 : rsL l [] = [] := by unfold rsL; rw [e4]; rfl
        have e2 : clOk l = false := by unfold clOk; rw [decide_eq_false (p := (rsN l []).length ≤ 120) (by omega), Bool.and_false]
        have e3 : clL l = [] := by unfold clL; rw [e2]; rfl
        rw [e4] at e1
        (refine fnM_of rfl rfl rfl rfl ?_; dsimp only [params, argAV, Ty.leaves, Ty.isSt])
        (repeat' (first | (with_reducible refine Cend.go ?_) | (with_reducible refine Step.mk True.intro ?_) | (with_reducible refine Step.mk ?_ ?_; focus (((try simp only [true_and, and_true, and_self, kmin, kmax, decide_eq_true_eq, decide_eq_false_iff_not, castD_self, castL_self, List.length_cons, List.length_nil, List.length_append, Int.natCast_add] at *) <;> omega))) | (with_reducible refine Step.mk ?_ ?_) | (with_reducible refine Way.t1 ?_) | (with_reducible refine Way.f1 ?_) | ((with_reducible refine Way.dec (fun zz => ?_) (fun zz => ?_)) <;> (try simp only [castD_self, castL_self] at zz) <;> try (exfalso; first | omega | contradiction)) | (with_reducible refine Way.nt ?_) | ((with_reducible refine Way.mk (fun _ => ?_) (fun _ => ?_)) <;> try (exfalso; rename_i hw; first | exact Bool.noConfusion ((Go.RowKit.Hid.out hv).symm.trans hw) | exact Bool.noConfusion (hw.symm.trans (Go.RowKit.Hid.out hv)))) | (with_reducible refine Drawn.mk (by kernel_rfl) ?_) | (refine Run.mk ?_)))
        refine Ret.mk ?_
        rw [e1, e2, e3]
        show fzA _ (AV.tu [(false, [Lf.d (.slice .str) (rsL l [])]), (false, [Lf.d .bool (decide ((rsF l []).1 = 0))]), (true, [Lf.d (.int .i64) (rsF l []).1, Lf.d (.int .i64) (rsF l []).2])]) _
        rw [e4, e5]
        exact ⟨⟨rfl, .same, True.intro⟩, ⟨rfl, .same, True.intro⟩, ⟨rfl, .same, .same, True.intro⟩, True.intro⟩
      · have e4 : rsF l [] = (0, 0) := e0.trans (if_neg h120)
        have e5 : rsL l [] = rsN l [] := by unfold rsL; rw [e4]; rfl
        have e2 : clOk l = true := by unfold clOk; rw [decide_eq_true (p := (rsN l []).length ≤ 120) (by omega), decide_eq_true hv0, decide_eq_true hn]; rfl
        have e3 : clL l = rsN l [] := by unfold clL; rw [e2]; rfl
        rw [e4] at e1
        (refine fnM_of rfl rfl rfl rfl ?_; dsimp only [params, argAV, Ty.leaves, Ty.isSt])
        (repeat' (first | (with_reducible refine Cend.go ?_) | (with_reducible refine Step.mk True.intro ?_) | (with_reducible refine Step.mk ?_ ?_; focus (((try simp only [true_and, and_true, and_self, kmin, kmax, decide_eq_true_eq, decide_eq_false_iff_not, castD_self, castL_self, List.length_cons, List.length_nil, List.length_append, Int.natCast_add] at *) <;> omega))) | (with_reducible refine Step.mk ?_ ?_) | (with_reducible refine Way.t1 ?_) | (with_reducible refine Way.f1 ?_) | ((with_reducible refine Way.dec (fun zz => ?_) (fun zz => ?_)) <;> (try simp only [castD_self, castL_self] at zz) <;> try (exfalso; first | omega | contradiction)) | (with_reducible refine Way.nt ?_) | ((with_reducible refine Way.mk (fun _ => ?_) (fun _ => ?_)) <;> try (exfalso; rename_i hw; first | exact Bool.noConfusion ((Go.RowKit.Hid.out hv).symm.trans hw) | exact Bool.noConfusion (hw.symm.trans (Go.RowKit.Hid.out hv)))) | (with_reducible refine Drawn.mk (by kernel_rfl) ?_) | (refine Run.mk ?_)))
        refine Ret.mk ?_
        rw [e1, e2, e3]
        show fzA _ (AV.tu [(false, [Lf.d (.slice .str) (rsL l [])]), (false, [Lf.d .bool (decide ((rsF l []).1 = 0))]), (true, [Lf.d (.int .i64) (rsF l []).1, Lf.d (.int .i64) (rsF l []).2])]) _
        rw [e4, e5]
        exact ⟨⟨rfl, .same, True.intro⟩, ⟨rfl, .same, True.intro⟩, ⟨rfl, .same, .same, True.intro⟩, True.intro⟩
    · have e1 : clF l = (0, 0) := by unfold clF; rw [if_neg (fun z => z hv0), if_pos hn]
      have e2 : clOk l = false := by unfold clOk; rw [decide_eq_false hn, Bool.and_false, Bool.false_and]
      have e3 : clL l = [] := by unfold clL; rw [e2]; rfl
      (refine fnM_of rfl rfl rfl rfl ?_; dsimp only [params, argAV, Ty.leaves, Ty.isSt])
      (repeat' (first | (with_reducible refine Cend.go ?_) | (with_reducible refine Step.mk True.intro ?_) | (with_reducible refine Step.mk ?_ ?_; focus (((try simp only [true_and, and_true, and_self, kmin, kmax, decide_eq_true_eq, decide_eq_false_iff_not, castD_self, castL_self, List.length_cons, List.length_nil, List.length_append, Int.natCast_add] at *) <;> omega))) | (with_reducible refine Step.mk ?_ ?_) | (with_reducible refine Way.t1 ?_) | (with_reducible refine Way.f1 ?_) | ((with_reducible refine Way.dec (fun zz => ?_) (fun zz => ?_)) <;> (try simp only [castD_self, castL_self] at zz) <;> try (exfalso; first | omega | contradiction)) | (with_reducible refine Way.nt ?_) | ((with_reducible refine Way.mk (fun _ => ?_) (fun _ => ?_)) <;> try (exfalso; rename_i hw; first | exact Bool.noConfusion ((Go.RowKit.Hid.out hv).symm.trans hw) | exact Bool.noConfusion (hw.symm.trans (Go.RowKit.Hid.out hv)))) | (with_reducible refine Drawn.mk (by kernel_rfl) ?_) | (refine Run.mk ?_)))
      refine Ret.mk ?_
      rw [e1, e2, e3]
      exact ⟨⟨rfl, .frz rfl, True.intro⟩, ⟨rfl, .same, True.intro⟩, ⟨rfl, .same, .same, True.intro⟩, True.intro⟩
  · have e1 : clF l = (ckC l, ckI l) := if_pos hv0
    have e2 : clOk l = false := by unfold clOk; rw [decide_eq_false hv0]; rfl
    have e3 : clL l = [] := by unfold clL; rw [e2]; rfl
    have hv := Lib.hid e1
    (refine fnM_of rfl rfl rfl rfl ?_; dsimp only [params, argAV, Ty.leaves, Ty.isSt])
    (repeat' (first | (with_reducible refine Cend.go ?_) | (with_reducible refine Step.mk True.intro ?_) | (with_reducible refine Step.mk ?_ ?_; focus (((try simp only [true_and, and_true, and_self, kmin, kmax, decide_eq_true_eq, decide_eq_false_iff_not, castD_self, castL_self, List.length_cons, List.length_nil, List.length_append, Int.natCast_add] at *) <;> omega))) | (with_reducible refine Step.mk ?_ ?_) | (with_reducible refine Way.t1 ?_) | (with_reducible refine Way.f1 ?_) | ((with_reducible refine Way.dec (fun zz => ?_) (fun zz => ?_)) <;> (try simp only [castD_self, castL_self] at zz) <;> try (exfalso; first | omega | contradiction)) | (with_reducible refine Way.nt ?_) | ((with_reducible refine Way.mk (fun _ => ?_) (fun _ => ?_)) <;> try (exfalso; rename_i hw; first | exact Bool.noConfusion ((Go.RowKit.Hid.out hv).symm.trans hw) | exact Bool.noConfusion (hw.symm.trans (Go.RowKit.Hid.out hv)))) | (with_reducible refine Drawn.mk (by kernel_rfl) ?_) | (refine Run.mk ?_)))
    refine Ret.mk ?_
    rw [e1, e2, e3]
    exact ⟨⟨rfl, .frz rfl, True.intro⟩, ⟨rfl, .same, True.intro⟩, ⟨rfl, .same, .same, True.intro⟩, True.intro⟩
def cA : ByteArray := { data := #[97] }
def cB : ByteArray := { data := #[98] }
def cC : ByteArray := { data := #[99] }
theorem mg_abc : mgV [cA] [cB] [cC] = [(true, [], [cA], [cB], [cC])] := by decide +kernel
theorem mg_abc0 : mgC [cA] [cB] [cC] = 0 := by decide +kernel
def sp_opp : SpecF := pureSp false [] (fun _ => True) (fun _ => .v false [.d .bool true])
theorem opposed_sp : SpFact 12 sp_opp := by
  refine ⟨⟨Try.f12, rfl, rfl, rfl, pureSp_ok (env1_fine (sp := [(9, sp_Merge), (11, sp_Chunks)]) (eq := []) (inl := []) (cl := [4, 5, 6, 15, 16, 17, 19]) ⟨Merge_sp, Chunks_sp, True.intro⟩ True.intro True.intro) rfl (fun _ _ => rfl) ?_⟩, pureSp_loc _ _ _ _⟩
  rintro u - -
  have e1 := mg_abc
  have e2 := mg_abc0
  unfold cA cB cC at e1 e2
  (refine fnM_of rfl rfl rfl rfl ?_; dsimp only [params, argAV, Ty.leaves, Ty.isSt])
  (repeat' (first | (with_reducible refine Cend.go ?_) | (with_reducible refine Step.mk True.intro ?_) | (with_reducible refine Step.mk ?_ ?_; focus (((try simp only [true_and, and_true, and_self, kmin, kmax, decide_eq_true_eq, decide_eq_false_iff_not, castD_self, castL_self, List.length_cons, List.length_nil, List.length_append, Int.natCast_add] at *) <;> omega))) | (with_reducible refine Step.mk ?_ ?_) | (with_reducible refine Way.t1 ?_) | (with_reducible refine Way.f1 ?_) | ((with_reducible refine Way.dec (fun _ => ?_) (fun _ => ?_)) <;> try (exfalso; omega)) | (with_reducible refine Way.nt ?_) | (with_reducible refine Way.mk (fun _ => ?_) (fun _ => ?_)) | (with_reducible refine Drawn.mk (by kernel_rfl) ?_) | (refine Run.mk ?_)))
  · refine Ret.mk ?_
    show AV.v false [Lf.d .bool (decide (mgV [{ data := #[97] }] [{ data := #[98] }] [{ data := #[99] }] = [(true, [], [{ data := #[97] }], [{ data := #[98] }], [{ data := #[99] }])]))] = _
    rw [decide_eq_true e1]
  · rename_i q
    exact absurd e2 q
theorem law_Merge3ResolveMatchesSpec : SpFact 7 (pureSp false [.slice tCh, .slice (.int .i64)] (fun _ => True) (fun _ => .v false [.d .bool true])) := by
  refine ⟨⟨Try.f7, rfl, rfl, rfl, pureSp_ok (env_fine (sp := [(14, sp_Clean), (18, sp_Clean), (16, sp_Resolve), (19, sp_RResolve), (15, sp_Strings), (12, sp_opp)]) (eq := [(25, true)]) ⟨Clean_sp, RClean_sp, Resolve_sp, RResolve_sp, Strings_sp, opposed_sp, True.intro⟩ ⟨eq_fault, True.intro⟩) rfl (fun _ _ => rfl) ?_⟩, pureSp_loc _ _ _ _⟩
  rintro ⟨l, ch, u⟩ - -
  change List Ch at l
  change List Int at ch
  (refine fnM_of rfl rfl rfl rfl ?_; dsimp only [params, argAV, Ty.leaves, Ty.isSt])
  (repeat' (first | (with_reducible refine Cend.go ?_) | (with_reducible refine Step.mk True.intro ?_) | (with_reducible refine Step.mk ?_ ?_; focus (((try simp only [true_and, and_true, and_self, kmin, kmax, decide_eq_true_eq, decide_eq_false_iff_not, castD_self, castL_self, List.length_cons, List.length_nil, List.length_append, Int.natCast_add] at *) <;> omega))) | (with_reducible refine Step.mk ?_ ?_) | (with_reducible refine Way.t1 ?_) | (with_reducible refine Way.f1 ?_) | ((with_reducible refine Way.dec (fun _ => ?_) (fun _ => ?_)) <;> try (exfalso; omega)) | (with_reducible refine Way.nt ?_) | (with_reducible refine Way.mk (fun _ => ?_) (fun _ => ?_)) | (with_reducible refine Drawn.mk (by kernel_rfl) ?_) | (refine Run.mk ?_)))
  all_goals first
    | exact Ret.mk rfl
    | (rename_i q; exact absurd rfl q)
    | (rename_i q; exfalso; revert q; simp)
end Go.Proofs.Ytppmhjaooiameaa
