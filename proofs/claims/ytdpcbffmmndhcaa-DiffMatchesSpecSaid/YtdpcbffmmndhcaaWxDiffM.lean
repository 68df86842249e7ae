/- The walks of the reference's Kept, Distance; the law DiffMatchesSpec. -/
import Derived.Test.YtdpcbffmmndhcaaWxRefPat
import Derived.Test.YtdpcbffmmndhcaaWxRefTwo
import Derived.Test.YtdpcbffmmndhcaaWxDist
import Derived.Test.YtdpcbffmmndhcaaWxCommon
import Derived.Test.YtdpcbffmmndhcaaWxEqPat
namespace Go.Proofs.Ytdpcbffmmndhcaa
open Go.RowKit
set_option maxRecDepth 10000
set_option linter.unusedSimpArgs false

theorem kept_take {l : List (Int × ByteArray)} {k : Nat} (h : k < l.length) : kept (l.take (k + 1)) = kept (l.take k) ++ if l[k].1 = 0 then [l[k].2] else [] := by
  rw [List.take_add_one, List.getElem?_eq_getElem h, Option.toList_some]
  unfold kept
  rw [List.filterMap_append]
  congr 1
  by_cases h0 : l[k].1 = 0 <;> simp [h0]
def sp_Kept : SpecF := pureSp false [.slice .str, .slice .str] (fun (a', b', _) => a'.length ≤ 120 ∧ b'.length ≤ 120) (fun (a', b', _) => .v false [.d (.slice .str) (kept (steps a' b'))])
theorem Kept_sp : SpFact 34 sp_Kept := by
  refine ⟨⟨Try.f34, rfl, rfl, rfl, pureSp_okF (env_fine (sp := [(43, sp_RAl)]) (eq := []) ⟨RAl_sp, True.intro⟩ True.intro) rfl (fun ⟨_, _, _⟩ _ => rfl) ?_⟩, pureSp_loc _ _ _ _⟩
  rintro ⟨a, b, u⟩ - ⟨ha, hb⟩
  change List ByteArray at a b
  replace ha : a.length ≤ 120 := ha
  replace hb : b.length ≤ 120 := hb
  have hl := steps_len a b
  (refine fnM_of rfl rfl rfl rfl ?_; dsimp only [params, argAV, Ty.leaves, Ty.isSt])
  (repeat' (first | (with_reducible refine Step.mk True.intro ?_) | (with_reducible refine Step.mk ?_ ?_; focus (((try simp only [true_and, and_true, and_self, kmin, kmax, decide_eq_true_eq, decide_eq_false_iff_not, castD_self, castL_self, List.length_cons, List.length_nil, List.length_append, Int.natCast_add] at *) <;> omega))) | (with_reducible refine Step.mk ?_ ?_) | (with_reducible refine Way.t1 ?_) | (with_reducible refine Way.f1 ?_) | ((with_reducible refine Way.dec (fun _ => ?_) (fun _ => ?_)) <;> try (exfalso; omega)) | (with_reducible refine Way.nt ?_) | (with_reducible refine Way.mk (fun _ => ?_) (fun _ => ?_)) | (with_reducible refine Drawn.mk (by kernel_rfl) ?_) | (refine Run.mk ?_)))
  refine loop_by (X := Nat × List ByteArray) (fun x => [.put 5 (.v false [.o 91]), .put 6 (.v false [.d (.slice tStep) (steps a b)]), .put 7 (.v false [.d (.int .i64) (x.1 : Int)])])
    (fun x => [.put 91 (.row 9 .str x.2)]) (fun x => x.1 ≤ (steps a b).length ∧ x.2 = kept ((steps a b).take x.1) ∧ x.2.length ≤ x.1) (fun x => (steps a b).length - x.1) (0, []) ⟨Nat.zero_le _, rfl, Nat.le_refl _⟩ ?_ ?_
  · refine (Wk.nilrow 5 91 9 .str rfl).trans ?_
    (refine Wk.keep ?_ ?_ <;> repeat' (first | exact True.intro | refine And.intro rfl ?_ | refine And.intro (congrArg (fun z : Int => AV.v false [Lf.d (.int .i64) z]) (by first | omega | (simp only [Int.natCast_add, List.length_cons, List.length_append, List.length_nil]; omega))) ?_ | refine And.intro ?_ ?_))
  rintro ⟨q, o⟩ ⟨hq, ho, hn⟩
  dsimp only at hq ho hn ⊢
  by_cases hqe : q < (steps a b).length
  · have hg := getD_at (a := steps a b) tStep.dflt hqe
    have ht := kept_take hqe
    rw [← ho, ← hg] at ht
    replace hg := Lib.hid hg
    replace ht := Lib.hid ht
    replace ho := Lib.hid ho
    (repeat' (first | (with_reducible refine Step.mk True.intro ?_) | (with_reducible refine Step.mk ?_ ?_; focus (((try simp only [true_and, and_true, and_self, kmin, kmax, decide_eq_true_eq, decide_eq_false_iff_not, castD_self, castL_self, List.length_cons, List.length_nil, List.length_append, Int.natCast_add] at *) <;> omega))) | (with_reducible refine Step.mk ?_ ?_) | (with_reducible refine Way.t1 ?_) | (with_reducible refine Way.f1 ?_) | ((with_reducible refine Way.dec (fun _ => ?_) (fun _ => ?_)) <;> try (exfalso; omega)) | (with_reducible refine Way.nt ?_) | (with_reducible refine Way.mk (fun _ => ?_) (fun _ => ?_)) | (with_reducible refine Drawn.mk (by kernel_rfl) ?_) | (refine Run.mk ?_)))
    · rename_i h1 h2
      have h2 : ((steps a b).getD ((q : Int)).toNat tStep.dflt).1 = 0 := h2
      have ht := ht.out
      rw [if_pos h2] at ht
      (apply Back.by ((q + 1, _)); focus (refine Wk.ren [(91, 30)] rfl ?_ ?_ <;> repeat' (first | exact True.intro | refine And.intro rfl ?_ | refine And.intro (congrArg (fun z : Int => AV.v false [Lf.d (.int .i64) z]) (by first | omega | (simp only [Int.natCast_add, List.length_cons, List.length_append, List.length_nil]; omega))) ?_ | refine And.intro ?_ ?_)))
      · exact ⟨hqe, ht.symm, by show (o ++ [_]).length ≤ q + 1; rw [List.length_append, List.length_singleton]; omega⟩
      · show (steps a b).length - (q + 1) < (steps a b).length - q; omega
    · rename_i h1 h2
      have h2 : ¬ ((steps a b).getD ((q : Int)).toNat tStep.dflt).1 = 0 := h2
      have ht := ht.out
      rw [if_neg h2, List.append_nil] at ht
      (refine Back.by ((q + 1, o)) ?_ ?_ ?_; focus (refine Wk.keep ?_ ?_ <;> repeat' (first | exact True.intro | refine And.intro rfl ?_ | refine And.intro (congrArg (fun z : Int => AV.v false [Lf.d (.int .i64) z]) (by first | omega | (simp only [Int.natCast_add, List.length_cons, List.length_append, List.length_nil]; omega))) ?_ | refine And.intro ?_ ?_)))
      · exact ⟨hqe, ht.symm, Nat.le_succ_of_le hn⟩
      · show (steps a b).length - (q + 1) < (steps a b).length - q; omega
  · rw [List.take_of_length_le (by omega)] at ho
    (repeat' (first | (with_reducible refine Step.mk True.intro ?_) | (with_reducible refine Step.mk ?_ ?_; focus (((try simp only [true_and, and_true, and_self, kmin, kmax, decide_eq_true_eq, decide_eq_false_iff_not, castD_self, castL_self, List.length_cons, List.length_nil, List.length_append, Int.natCast_add] at *) <;> omega))) | (with_reducible refine Step.mk ?_ ?_) | (with_reducible refine Way.t1 ?_) | (with_reducible refine Way.f1 ?_) | ((with_reducible refine Way.dec (fun _ => ?_) (fun _ => ?_)) <;> try (exfalso; omega)) | (with_reducible refine Way.nt ?_) | (with_reducible refine Way.mk (fun _ => ?_) (fun _ => ?_)) | (with_reducible refine Drawn.mk (by kernel_rfl) ?_) | (refine Run.mk ?_)))
    refine Ret.mk ?_
    rw [← ho]
    exact ⟨rfl, .frz rfl, True.intro⟩
def sp_RDist : SpecF := pureSp false [.slice .str, .slice .str] (fun (a', b', _) => a'.length ≤ 120 ∧ b'.length ≤ 120) (fun (a', b', _) => .v false [.d (.int .i64) ((a'.length : Int) + b'.length - 2 * (lcs a' b' : Nat))])
theorem RDist_sp : SpFact 31 sp_RDist := by
  refine ⟨⟨Try.f31, rfl, rfl, rfl, pureSp_ok (env_fine (sp := [(50, sp_Suf)]) (eq := []) ⟨Suf_sp, True.intro⟩ True.intro) rfl (fun ⟨_, _, _⟩ _ => rfl) ?_⟩, pureSp_loc _ _ _ _⟩
  rintro ⟨a, b, u⟩ - ⟨ha, hb⟩
  change List ByteArray at a b
  replace ha : a.length ≤ 120 := ha
  replace hb : b.length ≤ 120 := hb
  have hT1 := tabL_len a b
  have c1 : ((tabL a b).getD ((0 : Int)).toNat tRow.dflt).length = a.length + 1 := by rw [show ((0 : Int)).toNat = 0 from rfl, tabL_at a b 0 (Nat.zero_le _), colL_len]
  have g1 : ((tabL a b).getD ((0 : Int)).toNat tRow.dflt).getD ((0 : Int)).toNat (Ty.int .i64).dflt = ((lcs a b : Nat) : Int) := by rw [show ((0 : Int)).toNat = 0 from rfl, tabL_at a b 0 (Nat.zero_le _)]; exact colL_at a b 0 0 (Nat.zero_le _) _
  have hl := lcs_le_l a b
  (refine fnM_of rfl rfl rfl rfl ?_; dsimp only [params, argAV, Ty.leaves, Ty.isSt])
  (repeat' (first | (with_reducible refine Step.mk True.intro ?_) | (with_reducible refine Step.mk ?_ ?_; focus (((try simp only [true_and, and_true, and_self, kmin, kmax, decide_eq_true_eq, decide_eq_false_iff_not, castD_self, castL_self, List.length_cons, List.length_nil, List.length_append, Int.natCast_add] at *) <;> omega))) | (with_reducible refine Step.mk ?_ ?_) | (with_reducible refine Way.t1 ?_) | (with_reducible refine Way.f1 ?_) | ((with_reducible refine Way.dec (fun _ => ?_) (fun _ => ?_)) <;> try (exfalso; omega)) | (with_reducible refine Way.nt ?_) | (with_reducible refine Way.mk (fun _ => ?_) (fun _ => ?_)) | (with_reducible refine Drawn.mk (by kernel_rfl) ?_) | (refine Run.mk ?_)))
  refine Ret.mk (congrArg (fun z : Int => AV.v false [.d (.int .i64) ((a.length : Int) + b.length - 2 * z)]) ?_)
  exact g1
theorem refl_true (x y : Int) : (decide (x = x) && decide (y = y)) = true := by simp
theorem law_DiffMatchesSpec : SpFact 10 (pureSp false [.slice .str, .slice .str] (fun _ => True) (fun _ => .v false [.d .bool true])) := by
  refine ⟨⟨Try.f10, rfl, rfl, rfl, pureSp_ok (env_fine (sp := [(16, sp_Distance), (29, sp_Script), (20, sp_Common), (30, sp_TwoF), (31, sp_RDist), (33, sp_RScript), (34, sp_Kept), (17, spTru), (18, sp_Strings), (32, sp_Patch)]) (eq := [(24, true)])
    ⟨Distance_sp, Script_sp, Common_sp, TwoF_sp, RDist_sp, RScript_sp, Kept_sp, moved_sp, Strings_sp, Patch_sp, True.intro⟩ ⟨eq_fault, True.intro⟩) rfl (fun _ _ => rfl) ?_⟩, pureSp_loc _ _ _ _⟩
  rintro ⟨a, b, u⟩ - -
  change List ByteArray at a b
  have hv := refl_true (bC a b) (bI a b)
  replace hv := Lib.hid hv
  by_cases h : bC a b = 0
  · obtain ⟨ha, hb, -⟩ := bgood h
    have e1 : dstV a b = (a.length : Int) + b.length - 2 * (lcs a b : Nat) := dst_lcs h
    have e2 : scV a b = script a b := if_pos h
    have e3 : comV a b = kept (steps a b) := (if_pos h).trans (steps_facts (a.length + b.length) a b (Nat.le_refl _)).2.2.2.symm
    replace e1 := Lib.hid e1
    replace e2 := Lib.hid e2
    replace e3 := Lib.hid e3
    (refine fnM_of rfl rfl rfl rfl ?_; dsimp only [params, argAV, Ty.leaves, Ty.isSt])
    (repeat' (first | (with_reducible refine Step.mk True.intro ?_) | (with_reducible refine Step.mk ?_ ?_; focus (((try simp only [true_and, and_true, and_self, kmin, kmax, decide_eq_true_eq, decide_eq_false_iff_not, castD_self, castL_self, List.length_cons, List.length_nil, List.length_append, Int.natCast_add] at *) <;> omega))) | (with_reducible refine Step.mk ?_ ?_) | (with_reducible refine Way.t1 ?_) | (with_reducible refine Way.f1 ?_) | ((with_reducible refine Way.dec (fun _ => ?_) (fun _ => ?_)) <;> try (exfalso; omega)) | (with_reducible refine Way.nt ?_) | ((with_reducible refine Way.mk (fun _ => ?_) (fun _ => ?_)) <;> try (exfalso; rename_i hw; first | exact Bool.noConfusion ((Go.RowKit.Hid.out hv).symm.trans hw) | exact Bool.noConfusion (hw.symm.trans (Go.RowKit.Hid.out hv)))) | (with_reducible refine Drawn.mk (by kernel_rfl) ?_) | (refine Run.mk ?_)))
    all_goals try exact Ret.mk rfl
    all_goals (exfalso; first | exact absurd e3.out (by assumption) | exact absurd e2.out (by assumption) | exact absurd e1.out (by assumption) | exact absurd h (by assumption))
  · have e1 : dstV a b = 0 := if_neg h
    have e2 : scV a b = [] := if_neg h
    have e3 : comV a b = [] := if_neg h
    replace e1 := Lib.hid e1
    replace e2 := Lib.hid e2
    replace e3 := Lib.hid e3
    (refine fnM_of rfl rfl rfl rfl ?_; dsimp only [params, argAV, Ty.leaves, Ty.isSt])
    (repeat' (first | (with_reducible refine Step.mk True.intro ?_) | (with_reducible refine Step.mk ?_ ?_; focus (((try simp only [true_and, and_true, and_self, kmin, kmax, decide_eq_true_eq, decide_eq_false_iff_not, castD_self, castL_self, List.length_cons, List.length_nil, List.length_append, Int.natCast_add] at *) <;> omega))) | (with_reducible refine Step.mk ?_ ?_) | (with_reducible refine Way.t1 ?_) | (with_reducible refine Way.f1 ?_) | ((with_reducible refine Way.dec (fun _ => ?_) (fun _ => ?_)) <;> try (exfalso; omega)) | (with_reducible refine Way.nt ?_) | ((with_reducible refine Way.mk (fun _ => ?_) (fun _ => ?_)) <;> try (exfalso; rename_i hw; first | exact Bool.noConfusion ((Go.RowKit.Hid.out hv).symm.trans hw) | exact Bool.noConfusion (hw.symm.trans (Go.RowKit.Hid.out hv)))) | (with_reducible refine Drawn.mk (by kernel_rfl) ?_) | (refine Run.mk ?_)))
    all_goals try exact Ret.mk rfl
    all_goals first | (show ((scV a b).length : Int) ≤ 9223372036854775807; rw [e2.out]; decide) | (show ((comV a b).length : Int) ≤ 9223372036854775807; rw [e3.out]; decide) | skip
    all_goals (exfalso; first | exact absurd e1.out (by assumption) | exact absurd (show ((scV a b).length : Int) = 0 by rw [e2.out]; rfl) (by assumption) | exact absurd (show ((comV a b).length : Int) = 0 by rw [e3.out]; rfl) (by assumption) | exact absurd (by assumption) h)
end Go.Proofs.Ytdpcbffmmndhcaa
