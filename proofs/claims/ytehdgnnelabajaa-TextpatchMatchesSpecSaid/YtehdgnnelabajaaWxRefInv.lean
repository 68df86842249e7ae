/- The walk of the reference's Invert; the law TextpatchMatchesSpec. -/
import Derived.Test.YtehdgnnelabajaaWxRefAp
import Derived.Test.YtehdgnnelabajaaWxRepl
namespace Go.Proofs.Ytehdgnnelabajaa
open Go.RowKit
set_option maxRecDepth 10000
set_option linter.unusedSimpArgs false

theorem refl_t' (x y : Int) : (decide (x = x) && decide (y = y)) = true := by simp
def sp_RInvert : SpecF := pureSp false [tPat] (fun _ => True) (fun (p', _) => .tu [(true, [.d (.slice tHk) (ivP p')]), (true, [.d (.int .i64) (ivC p'), .d (.int .i64) (ivI p')])])
set_option maxHeartbeats 1000000 in
theorem RInvert_sp : SpFact 30 sp_RInvert := by
  refine ⟨⟨Try.f30, rfl, rfl, rfl, pureSp_okF (env1_fine (sp := [(32, sp_PF), (19, sp_At), (57, sp_RGrow)]) (eq := [])
    (inl := [(48, Try.f48)]) (cl := []) ⟨PF_sp, At_sp, RGrow_sp, True.intro⟩ True.intro ⟨⟨rfl, rfl, rfl⟩, True.intro⟩) rfl (fun ⟨_, _⟩ _ => rfl) ?_⟩, pureSp_loc _ _ _ _⟩
  rintro ⟨p, u⟩ - -
  change List Hk at p
  by_cases hp : pC p = 0
  · obtain ⟨hlen, hok⟩ := pC_ok hp
    have hbd := fun k => pGrow_bd (p.take k) fun x hx => hok x (List.mem_of_mem_take hx)
    have hgs : ∀ k (h : k < p.length), pGrow (p.take (k + 1)) = pGrow (p.take k) + hkGrow p[k] := fun k h => by
      rw [List.take_add_one, List.getElem?_eq_getElem h, Option.toList_some, pGrow_append]; simp [pGrow]
    have his : ∀ k (h : k < p.length), pInv 0 (p.take (k + 1)) = pInv 0 (p.take k) ++ [hkInv (pGrow (p.take k)) p[k]] := fun k h => by
      rw [List.take_add_one, List.getElem?_eq_getElem h, Option.toList_some, pInv_append, Int.zero_add]; rfl
    have hil : ∀ k, (pInv 0 (p.take k)).length ≤ 130 := fun k => by rw [pInv_length, List.length_take]; omega
    replace hok := Lib.hid hok
    replace hbd := Lib.hid hbd
    replace hgs := Lib.hid hgs
    replace his := Lib.hid his
    replace hil := Lib.hid hil
    replace hp := Lib.hid hp
    (refine fnM_of rfl rfl rfl rfl ?_; dsimp only [params, argAV, Ty.leaves, Ty.isSt])
    (repeat' (first | (with_reducible refine Step.mk True.intro ?_) | (with_reducible refine Step.mk ?_ ?_; focus (((try simp only [true_and, and_true, and_self, kmin, kmax, decide_eq_true_eq, decide_eq_false_iff_not, castD_self, castL_self, List.length_cons, List.length_nil, List.length_append, Int.natCast_add] at *) <;> omega))) | (with_reducible refine Step.mk ?_ ?_) | (with_reducible refine Way.t1 ?_) | (with_reducible refine Way.f1 ?_) | ((with_reducible refine Way.dec (fun _ => ?_) (fun _ => ?_)) <;> try (exfalso; omega)) | (with_reducible refine Way.nt ?_) | (with_reducible refine Way.mk (fun _ => ?_) (fun _ => ?_)) | (with_reducible refine Drawn.mk (by kernel_rfl) ?_) | (refine Run.mk ?_)))
    all_goals try (rename_i q; exact absurd hp.out q)
    refine loop_by (X := Nat) (fun i => [.put 1 (.v false [.p 1 0]), .put 2 (.v false [.p 2 0]), .put 3 (.v false [.p 3 0]), .put 5 (.v false [.p 5 0]), .put 6 (.v false [.d (.int .i64) (i : Int)])])
      (fun i => [.put 5 (.box 44 [.o 91]), .put 91 (.row 73 tHk (pInv 0 (p.take i))), .put 1 (.box 44 [.d (.slice tHk) p]), .put 2 (.box 44 [.nl]), .put 3 (.box 24 [.d (.int .i64) 0, .d (.int .i64) 0])])
      (fun i => i ≤ p.length) (fun i => p.length - i) 0 (Nat.zero_le _) ?_ ?_
    · refine (Wk.nilbox 5 0 91 73 tHk (T := 44) (cs := [.nl]) rfl rfl rfl).trans ?_
      (refine Wk.keep ?_ ?_ <;> repeat' (first | exact True.intro | refine And.intro rfl ?_ | refine And.intro (congrArg (fun z : Int => AV.v false [Lf.d (.int .i64) z]) (by first | omega | (simp only [Int.natCast_add, List.length_cons, List.length_append, List.length_nil]; omega))) ?_ | refine And.intro ?_ ?_))
    intro i hi
    (try dsimp only)
    by_cases hlt : i < p.length
    · have hg := getD_at (a := p) tHk.dflt hlt
      have ho := hok.out p[i] (List.getElem_mem hlt)
      have hs := his.out i hlt
      have hil := hil.out i
      rw [← hg] at ho hs
      obtain ⟨o1, o2, o3, o4⟩ := ho
      replace hg := Lib.hid hg
      replace hs := Lib.hid hs
      (repeat' (first | (with_reducible refine Step.mk True.intro ?_) | (with_reducible refine Step.mk ?_ ?_; focus (((try simp only [true_and, and_true, and_self, kmin, kmax, decide_eq_true_eq, decide_eq_false_iff_not, castD_self, castL_self, List.length_cons, List.length_nil, List.length_append, Int.natCast_add] at *) <;> omega))) | (with_reducible refine Step.mk ?_ ?_) | (with_reducible refine Way.t1 ?_) | (with_reducible refine Way.f1 ?_) | ((with_reducible refine Way.dec (fun _ => ?_) (fun _ => ?_)) <;> try (exfalso; omega)) | (with_reducible refine Way.nt ?_) | (with_reducible refine Way.mk (fun _ => ?_) (fun _ => ?_)) | (with_reducible refine Drawn.mk (by kernel_rfl) ?_) | (refine Run.mk ?_)))
      refine loop_by (X := Nat) (fun k => [.put 1 (.v false [.p 1 0]), .put 2 (.v false [.p 2 0]), .put 3 (.v false [.p 3 0]), .put 5 (.v false [.p 5 0]), .put 6 (.v false [.d (.int .i64) (i : Int)]), .put 7 (.v false [.d (.int .i64) ((p.getD ((i : Int)).toNat tHk.dflt).1 + pGrow (p.take k))]), .put 8 (.v false [.d (.int .i64) (k : Int)])])
        (fun _ => [.put 5 (.box 44 [.o 91]), .put 91 (.row 73 tHk (pInv 0 (p.take i))), .put 1 (.box 44 [.d (.slice tHk) p]), .put 2 (.box 44 [.nl]), .put 3 (.box 24 [.d (.int .i64) 0, .d (.int .i64) 0])])
        (fun k => k ≤ i) (fun k => i - k) 0 (Nat.zero_le _) ?_ ?_
      · rw [show pGrow (p.take 0) = 0 from rfl, Int.add_zero]
        (refine Wk.keep ?_ ?_ <;> repeat' (first | exact True.intro | refine And.intro rfl ?_ | refine And.intro (congrArg (fun z : Int => AV.v false [Lf.d (.int .i64) z]) (by first | omega | (simp only [Int.natCast_add, List.length_cons, List.length_append, List.length_nil]; omega))) ?_ | refine And.intro ?_ ?_))
      intro k hk
      (try dsimp only)
      have bd := hbd.out k
      rw [List.length_take, Nat.min_eq_left (by omega)] at bd
      by_cases hkl : k < i
      · have hgk := getD_at (a := p) tHk.dflt (show k < p.length by omega)
        have hok' := hok.out p[k] (List.getElem_mem (by omega))
        have hsk := hgs.out k (by omega)
        rw [← hgk] at hok' hsk
        obtain ⟨k1, k2, k3, k4⟩ := hok'
        have hgr : hkGrow (p.getD ((k : Int)).toNat tHk.dflt) = ((p.getD ((k : Int)).toNat tHk.dflt).2.2.length : Int) - (p.getD ((k : Int)).toNat tHk.dflt).2.1.length := rfl
        replace hgk := Lib.hid hgk
        replace hsk := Lib.hid hsk
        (repeat' (first | (with_reducible refine Step.mk True.intro ?_) | (with_reducible refine Step.mk ?_ ?_; focus (((try simp only [true_and, and_true, and_self, kmin, kmax, decide_eq_true_eq, decide_eq_false_iff_not, castD_self, castL_self, List.length_cons, List.length_nil, List.length_append, Int.natCast_add] at *) <;> omega))) | (with_reducible refine Step.mk ?_ ?_) | (with_reducible refine Way.t1 ?_) | (with_reducible refine Way.f1 ?_) | ((with_reducible refine Way.dec (fun _ => ?_) (fun _ => ?_)) <;> try (exfalso; omega)) | (with_reducible refine Way.nt ?_) | (with_reducible refine Way.mk (fun _ => ?_) (fun _ => ?_)) | (with_reducible refine Drawn.mk (by kernel_rfl) ?_) | (refine Run.mk ?_)))
        · exact ⟨show -1000000 ≤ (p.getD ((k : Int)).toNat tHk.dflt).1 by omega, show (p.getD ((k : Int)).toNat tHk.dflt).1 ≤ 1000000 by omega, k3, k4⟩
        · show -9223372036854775808 ≤ (p.getD ((i : Int)).toNat tHk.dflt).1 + pGrow (p.take k) + hkGrow (p.getD ((k : Int)).toNat tHk.dflt) ∧ (p.getD ((i : Int)).toNat tHk.dflt).1 + pGrow (p.take k) + hkGrow (p.getD ((k : Int)).toNat tHk.dflt) ≤ 9223372036854775807
          omega
        · refine Back.by (k + 1) ?_ ?_ ?_
          · rw [hsk.out, ← Int.add_assoc]
            (refine Wk.keep ?_ ?_ <;> repeat' (first | exact True.intro | refine And.intro rfl ?_ | refine And.intro (congrArg (fun z : Int => AV.v false [Lf.d (.int .i64) z]) (by first | omega | (simp only [Int.natCast_add, List.length_cons, List.length_append, List.length_nil]; omega))) ?_ | refine And.intro ?_ ?_))
          · show k + 1 ≤ i; omega
          · show i - (k + 1) < i - k; omega
      · obtain rfl : k = i := by omega
        (repeat' (first | (with_reducible refine Step.mk True.intro ?_) | (with_reducible refine Step.mk ?_ ?_; focus (((try simp only [true_and, and_true, and_self, kmin, kmax, decide_eq_true_eq, decide_eq_false_iff_not, castD_self, castL_self, List.length_cons, List.length_nil, List.length_append, Int.natCast_add] at *) <;> omega))) | (with_reducible refine Step.mk ?_ ?_) | (with_reducible refine Way.t1 ?_) | (with_reducible refine Way.f1 ?_) | ((with_reducible refine Way.dec (fun _ => ?_) (fun _ => ?_)) <;> try (exfalso; omega)) | (with_reducible refine Way.nt ?_) | (with_reducible refine Way.mk (fun _ => ?_) (fun _ => ?_)) | (with_reducible refine Drawn.mk (by kernel_rfl) ?_) | (refine Run.mk ?_)))
        refine Back.by (k + 1) ?_ ?_ ?_
        · rw [hs.out]
          (refine Wk.ren [(91, 59)] rfl ?_ ?_ <;> repeat' (first | exact True.intro | refine And.intro rfl ?_ | refine And.intro (congrArg (fun z : Int => AV.v false [Lf.d (.int .i64) z]) (by first | omega | (simp only [Int.natCast_add, List.length_cons, List.length_append, List.length_nil]; omega))) ?_ | refine And.intro ?_ ?_))
        · show k + 1 ≤ p.length; omega
        · show p.length - (k + 1) < p.length - k; omega
    · have e : p.take i = p := List.take_of_length_le (by omega)
      rw [e]
      clear e
      (repeat' (first | (with_reducible refine Step.mk True.intro ?_) | (with_reducible refine Step.mk ?_ ?_; focus (((try simp only [true_and, and_true, and_self, kmin, kmax, decide_eq_true_eq, decide_eq_false_iff_not, castD_self, castL_self, List.length_cons, List.length_nil, List.length_append, Int.natCast_add] at *) <;> omega))) | (with_reducible refine Step.mk ?_ ?_) | (with_reducible refine Way.t1 ?_) | (with_reducible refine Way.f1 ?_) | ((with_reducible refine Way.dec (fun _ => ?_) (fun _ => ?_)) <;> try (exfalso; omega)) | (with_reducible refine Way.nt ?_) | (with_reducible refine Way.mk (fun _ => ?_) (fun _ => ?_)) | (with_reducible refine Drawn.mk (by kernel_rfl) ?_) | (refine Run.mk ?_)))
      · rename_i q
        have q : pC (pInv 0 p) = 0 := q
        refine Ret.mk ?_
        rw [show ivP p = pInv 0 p from if_pos ⟨hp.out, q⟩, show ivC p = 0 from (if_pos hp.out).trans (if_pos q), show ivI p = 0 from (if_pos hp.out).trans (if_pos q)]
        exact ⟨⟨rfl, .frz rfl, True.intro⟩, ⟨rfl, .same, .same, True.intro⟩, True.intro⟩
      · rename_i q
        have q : ¬ pC (pInv 0 p) = 0 := q
        refine Ret.mk ?_
        rw [show ivP p = [] from if_neg fun z => q z.2, show ivC p = 10 from (if_pos hp.out).trans (if_neg q), show ivI p = -1 from (if_pos hp.out).trans (if_neg q)]
        exact ⟨⟨rfl, .frz rfl, True.intro⟩, ⟨rfl, .same, .same, True.intro⟩, True.intro⟩
  · (refine fnM_of rfl rfl rfl rfl ?_; dsimp only [params, argAV, Ty.leaves, Ty.isSt])
    (repeat' (first | (with_reducible refine Step.mk True.intro ?_) | (with_reducible refine Step.mk ?_ ?_; focus (((try simp only [true_and, and_true, and_self, kmin, kmax, decide_eq_true_eq, decide_eq_false_iff_not, castD_self, castL_self, List.length_cons, List.length_nil, List.length_append, Int.natCast_add] at *) <;> omega))) | (with_reducible refine Step.mk ?_ ?_) | (with_reducible refine Way.t1 ?_) | (with_reducible refine Way.f1 ?_) | ((with_reducible refine Way.dec (fun _ => ?_) (fun _ => ?_)) <;> try (exfalso; omega)) | (with_reducible refine Way.nt ?_) | (with_reducible refine Way.mk (fun _ => ?_) (fun _ => ?_)) | (with_reducible refine Drawn.mk (by kernel_rfl) ?_) | (refine Run.mk ?_)))
    all_goals try (exfalso; rename_i q; exact hp q)
    refine Ret.mk ?_
    rw [show ivP p = [] from if_neg fun h => hp h.1, show ivC p = pC p from if_neg hp, show ivI p = pI p from if_neg hp]
    exact ⟨⟨rfl, .frz rfl, True.intro⟩, ⟨rfl, .same, .same, True.intro⟩, True.intro⟩

theorem law_TextpatchMatchesSpec : SpFact 10 (pureSp false [tPat, .slice .str] (fun _ => True) (fun _ => .v false [.d .bool true])) := by
  refine ⟨⟨Try.f10, rfl, rfl, rfl, pureSp_ok (env_fine (sp := [(27, sp_Apply), (28, sp_RApply), (29, sp_Invert), (30, sp_RInvert), (31, sp_PValidate), (32, sp_PF), (26, pureSp false [] (fun _ => True) (fun _ => .v false [.d .bool true])), (25, sp_Patch), (17, sp_Strings)]) (eq := [(24, true)])
    ⟨Apply_sp, RApply_sp, Invert_sp, RInvert_sp, PValidate_sp, PF_sp, replaced_sp, Patch_sp, Strings_sp, True.intro⟩ ⟨eq_fault, True.intro⟩) rfl (fun _ _ => rfl) ?_⟩, pureSp_loc _ _ _ _⟩
  rintro ⟨p, t, u⟩ - -
  change List Hk at p
  change List ByteArray at t
  have hv := refl_t' (pC p) (pI p)
  have hv2 := refl_t' (apF p t).1 (apF p t).2
  have hv3 := refl_t' (ivC p) (ivI p)
  replace hv := Lib.hid hv
  replace hv2 := Lib.hid hv2
  replace hv3 := Lib.hid hv3
  (refine fnM_of rfl rfl rfl rfl ?_; dsimp only [params, argAV, Ty.leaves, Ty.isSt])
  (repeat' (first | (with_reducible refine Step.mk True.intro ?_) | (with_reducible refine Step.mk ?_ ?_; focus (((try simp only [true_and, and_true, and_self, kmin, kmax, decide_eq_true_eq, decide_eq_false_iff_not, castD_self, castL_self, List.length_cons, List.length_nil, List.length_append, Int.natCast_add] at *) <;> omega))) | (with_reducible refine Step.mk ?_ ?_) | (with_reducible refine Way.t1 ?_) | (with_reducible refine Way.f1 ?_) | ((with_reducible refine Way.dec (fun _ => ?_) (fun _ => ?_)) <;> try (exfalso; omega)) | (with_reducible refine Way.nt ?_) | ((with_reducible refine Way.mk (fun _ => ?_) (fun _ => ?_)) <;> try (exfalso; rename_i hw; first | exact Bool.noConfusion ((Go.RowKit.Hid.out hv).symm.trans hw) | exact Bool.noConfusion (hw.symm.trans (Go.RowKit.Hid.out hv)))) | (with_reducible refine Drawn.mk (by kernel_rfl) ?_) | (refine Run.mk ?_)))
  all_goals try exact Ret.mk rfl
  all_goals (rename_i z; exfalso; first | exact z rfl | exact Bool.noConfusion (hv2.out.symm.trans z) | exact Bool.noConfusion (hv3.out.symm.trans z) | exact Bool.noConfusion (hv.out.symm.trans z))
end Go.Proofs.Ytehdgnnelabajaa
