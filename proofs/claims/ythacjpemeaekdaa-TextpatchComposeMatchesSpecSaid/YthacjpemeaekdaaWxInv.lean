/- The walk of textpatch.Invert, with Copy, its closure and Made run in place. -/
import Derived.Test.YthacjpemeaekdaaWxPat
import Derived.Test.YthacjpemeaekdaaWxClone
namespace Go.Proofs.Ythacjpemeaekdaa
open Go.RowKit
set_option maxRecDepth 10000
set_option linter.unusedSimpArgs false

def sp_Invert : SpecF := pureSp false [tPat] (fun _ => True) (fun (p', _) => .tu [(true, [.d (.slice tHk) (ivP p')]), (true, [.d (.int .i64) (ivC p'), .d (.int .i64) (ivI p')])])
theorem Invert_sp : SpFact 29 sp_Invert := by
  refine ⟨⟨Try.f29, rfl, rfl, rfl, pureSp_okF (env1_fine (sp := [(28, sp_PValidate), (79, sp_Clone)]) (eq := [(24, true)])
    (inl := [(56, Try.f56), (57, Try.f57), (58, Try.f58), (45, Try.f45)]) (cl := [])
    ⟨PValidate_sp, Clone_sp, True.intro⟩ ⟨eq_fault, True.intro⟩ ⟨⟨rfl, rfl, rfl⟩, ⟨rfl, rfl, rfl⟩, ⟨rfl, rfl, rfl⟩, ⟨rfl, rfl, rfl⟩, True.intro⟩) rfl (fun ⟨_, _⟩ _ => rfl) ?_⟩, pureSp_loc _ _ _ _⟩
  rintro ⟨p, u⟩ - -
  change List Hk at p
  by_cases hp : pC p = 0
  · have hv : (decide (pC p = 0) && decide (pI p = 0)) = true := by rw [hp, pI_good p hp]; rfl
    obtain ⟨hlen, hok⟩ := pC_ok hp
    have hbd := pGrow_bd
    replace hok := Lib.hid hok
    replace hbd := Lib.hid hbd
    replace hv := Lib.hid hv
    replace hp := Lib.hid hp
    (refine fnM_of rfl rfl rfl rfl ?_; dsimp only [params, argAV, Ty.leaves, Ty.isSt])
    (repeat' (first | (with_reducible refine Cend.go ?_) | (with_reducible refine Step.mk True.intro ?_) | (with_reducible refine Step.mk ?_ ?_; focus (((try simp only [true_and, and_true, and_self, kmin, kmax, decide_eq_true_eq, decide_eq_false_iff_not, castD_self, castL_self, List.length_cons, List.length_nil, List.length_append, Int.natCast_add] at *) <;> omega))) | (with_reducible refine Step.mk ?_ ?_) | (with_reducible refine Way.t1 ?_) | (with_reducible refine Way.f1 ?_) | ((with_reducible refine Way.dec (fun _ => ?_) (fun _ => ?_)) <;> try (exfalso; omega)) | (with_reducible refine Way.nt ?_) | ((with_reducible refine Way.mk (fun _ => ?_) (fun _ => ?_)) <;> try (exfalso; rename_i hw; first | exact Bool.noConfusion ((Go.RowKit.Hid.out hv).symm.trans hw) | exact Bool.noConfusion (hw.symm.trans (Go.RowKit.Hid.out hv)))) | (with_reducible refine Drawn.mk (by kernel_rfl) ?_) | (refine Run.mk ?_)))
    show LoopG (cH 4 _) _ _ _ _ _ _ _
    refine loop_by (X := Nat × List Hk) (fun x => [.put 2 (.v false [.p 18002 0]), .put 3 (.v false [.p 18003 0]), .put 7 (.v false [.d (.slice tHk) p]), .put 8 (.v false [.d (.int .i64) (p.length : Int)]), .put 9 (.v false [.d (.int .i64) (x.1 : Int)]), .mark, .put 2 (.v false [.p 2 0]), .put 3 (.v false [.p 3 0])])
      (fun x => [.put 18003 (.box 41 [.o 91]), .put 91 (.row 76 tHk x.2), .put 18002 (.box 41 [.nl]), .put 3 (.box 24 [.d (.int .i64) 0, .d (.int .i64) 0]), .put 2 (.box 41 [.nl])]) (fun x => x.1 ≤ p.length ∧ x.2 = p.take x.1) (fun x => p.length - x.1) (0, []) ⟨Nat.zero_le _, rfl⟩ ?_ ?_
    · refine (Wk.nilbox 18003 0 91 76 tHk (T := 41) (cs := [.nl]) rfl rfl rfl).trans ?_
      (refine Wk.keep ?_ ?_ <;> repeat' (first | exact True.intro | refine And.intro rfl ?_ | refine And.intro (congrArg (fun z : Int => AV.v false [Lf.d (.int .i64) z]) (by first | omega | (simp only [Int.natCast_add, List.length_cons, List.length_append, List.length_nil]; omega))) ?_ | refine And.intro ?_ ?_))
    rintro ⟨k, L⟩ ⟨hk, hL⟩
    dsimp only at hk hL ⊢
    by_cases hlt : k < p.length
    · have hg := getD_at (a := p) tHk.dflt hlt
      have ho := hok.out p[k] (List.getElem_mem hlt)
      rw [← hg] at ho
      obtain ⟨o1, o2, o3, o4⟩ := ho
      have htk : p.take (k + 1) = p.take k ++ [p[k]] := by rw [List.take_add_one, List.getElem?_eq_getElem hlt]; rfl
      have hlk : L.length = k := by rw [hL, List.length_take]; omega
      rw [← hg, ← hL] at htk
      replace hg := Lib.hid hg
      replace htk := Lib.hid htk
      replace hL := Lib.hid hL
      (repeat' (first | (with_reducible refine Cend.go ?_) | (with_reducible refine Step.mk True.intro ?_) | (with_reducible refine Step.mk ?_ ?_; focus (((try simp only [true_and, and_true, and_self, kmin, kmax, decide_eq_true_eq, decide_eq_false_iff_not, castD_self, castL_self, List.length_cons, List.length_nil, List.length_append, Int.natCast_add] at *) <;> omega))) | (with_reducible refine Step.mk ?_ ?_) | (with_reducible refine Way.t1 ?_) | (with_reducible refine Way.f1 ?_) | ((with_reducible refine Way.dec (fun _ => ?_) (fun _ => ?_)) <;> try (exfalso; omega)) | (with_reducible refine Way.nt ?_) | (with_reducible refine Way.mk (fun _ => ?_) (fun _ => ?_)) | (with_reducible refine Drawn.mk (by kernel_rfl) ?_) | (refine Run.mk ?_)))
      (apply Back.by ((k + 1, _)); focus (refine Wk.ren [(91, 18025)] rfl ?_ ?_ <;> repeat' (first | exact True.intro | refine And.intro rfl ?_ | refine And.intro (congrArg (fun z : Int => AV.v false [Lf.d (.int .i64) z]) (by first | omega | (simp only [Int.natCast_add, List.length_cons, List.length_append, List.length_nil]; omega))) ?_ | refine And.intro ?_ ?_)))
      · exact ⟨hlt, htk.out.symm⟩
      · show p.length - (k + 1) < p.length - k; omega
    rw [List.take_of_length_le (by omega)] at hL
    subst hL
    (repeat' (first | (with_reducible refine Cend.go ?_) | (with_reducible refine Step.mk True.intro ?_) | (with_reducible refine Step.mk ?_ ?_; focus (((try simp only [true_and, and_true, and_self, kmin, kmax, decide_eq_true_eq, decide_eq_false_iff_not, castD_self, castL_self, List.length_cons, List.length_nil, List.length_append, Int.natCast_add] at *) <;> omega))) | (with_reducible refine Step.mk ?_ ?_) | (with_reducible refine Way.t1 ?_) | (with_reducible refine Way.f1 ?_) | ((with_reducible refine Way.dec (fun _ => ?_) (fun _ => ?_)) <;> try (exfalso; omega)) | (with_reducible refine Way.nt ?_) | ((with_reducible refine Way.mk (fun _ => ?_) (fun _ => ?_)) <;> try (exfalso; rename_i hw; first | exact Bool.noConfusion ((Go.RowKit.Hid.out hv).symm.trans hw) | exact Bool.noConfusion (hw.symm.trans (Go.RowKit.Hid.out hv)))) | (with_reducible refine Drawn.mk (by kernel_rfl) ?_) | (refine Run.mk ?_)))
    refine loop_by (X := Nat × Int × List Hk) (fun x => [.put 2 (.v false [.p 2 0]), .put 3 (.v false [.p 3 0]), .put 5 (.v false [.p 5 0]), .put 6 (.v false [.p 6 0]), .put 7 (.v false [.fn 57 [6]]), .put 21 (.v false [.d (.int .i64) (L.length : Int)]), .put 22 (.v false [.d (.int .i64) (x.1 : Int)])])
      (fun x => [.put 5 (.box 41 [.o 91]), .put 91 (.row 76 tHk x.2.2), .put 6 (.box 3 [.d (.int .i64) x.2.1]), .put 3 (.box 24 [.d (.int .i64) 0, .d (.int .i64) 0]), .put 2 (.box 41 [.nl])])
      (fun x => x.1 ≤ L.length ∧ x.2.1 = pGrow (L.take x.1) ∧ x.2.2 = pInv 0 (L.take x.1) ++ L.drop x.1) (fun x => L.length - x.1) (0, 0, L) ⟨Nat.zero_le _, rfl, rfl⟩ ?_ ?_
    · (refine Wk.keep ?_ ?_ <;> repeat' (first | exact True.intro | refine And.intro rfl ?_ | refine And.intro (congrArg (fun z : Int => AV.v false [Lf.d (.int .i64) z]) (by first | omega | (simp only [Int.natCast_add, List.length_cons, List.length_append, List.length_nil]; omega))) ?_ | refine And.intro ?_ ?_))
    rintro ⟨k, g, M⟩ ⟨hk, hgr, hM⟩
    dsimp only at hk hgr hM ⊢
    by_cases hlt : k < L.length
    · have hg := getD_at (a := L) tHk.dflt hlt
      have ho := hok.out L[k] (List.getElem_mem hlt)
      have hlk : M.length = L.length := by rw [hM, List.length_append, pInv_length, List.length_take, List.length_drop]; omega
      have mg : M.getD ((k : Int)).toNat tHk.dflt = L[k] := by
        rw [hM, Int.toNat_natCast, List.getD_eq_getElem?_getD, List.getElem?_append_right (by rw [pInv_length, List.length_take]; omega), pInv_length, List.length_take, Nat.min_eq_left hk, Nat.sub_self, List.getElem?_drop, Nat.add_zero, List.getElem?_eq_getElem hlt]; rfl
      have hset : M.set ((k : Int)).toNat (hkInv g L[k]) = pInv 0 (L.take (k + 1)) ++ L.drop (k + 1) := by
        rw [Int.toNat_natCast, hM, List.take_add_one, List.getElem?_eq_getElem hlt, Option.toList_some, pInv_append, List.set_append_right _ _ (by rw [pInv_length, List.length_take]; omega), pInv_length, List.length_take, Nat.min_eq_left hk, Nat.sub_self, List.drop_eq_getElem_cons hlt, List.set_cons_zero, List.append_assoc, hgr, Int.zero_add]; rfl
      have hgr' : g + hkGrow L[k] = pGrow (L.take (k + 1)) := by
        rw [List.take_add_one, List.getElem?_eq_getElem hlt, Option.toList_some, pGrow_append, hgr]; simp [pGrow]
      have bd := hbd.out (L.take k) fun x hx => hok.out x (List.mem_of_mem_take hx)
      rw [← hgr, List.length_take, Nat.min_eq_left hk] at bd
      rw [← mg] at ho hset hgr'
      obtain ⟨o1, o2, o3, o4⟩ := ho
      have o1' : 0 ≤ (M.getD ((k : Int)).toNat ((Ty.int IntKind.i64).pair ((Ty.slice .str).pair (Ty.slice .str))).dflt).1 := o1
      have o2' : (M.getD ((k : Int)).toNat ((Ty.int IntKind.i64).pair ((Ty.slice .str).pair (Ty.slice .str))).dflt).1 ≤ 120 := o2
      have s3 := sets3 M ((k : Int)).toNat (by omega) tHk.dflt
      replace s3 := Lib.hid s3
      replace hset := Lib.hid hset
      replace hgr' := Lib.hid hgr'
      replace mg := Lib.hid mg
      replace hg := Lib.hid hg
      replace hM := Lib.hid hM
      replace hgr := Lib.hid hgr
      (repeat' (first | (with_reducible refine Cend.go ?_) | (with_reducible refine Step.mk True.intro ?_) | (with_reducible refine Step.mk ?_ ?_; focus (((try simp only [true_and, and_true, and_self, kmin, kmax, decide_eq_true_eq, decide_eq_false_iff_not, castD_self, castL_self, List.length_cons, List.length_nil, List.length_append, Int.natCast_add] at *) <;> omega))) | (with_reducible refine Step.mk ?_ ?_) | (with_reducible refine Way.t1 ?_) | (with_reducible refine Way.f1 ?_) | ((with_reducible refine Way.dec (fun _ => ?_) (fun _ => ?_)) <;> try (exfalso; omega)) | (with_reducible refine Way.nt ?_) | (with_reducible refine Way.mk (fun _ => ?_) (fun _ => ?_)) | (with_reducible refine Drawn.mk (by kernel_rfl) ?_) | (refine Run.mk ?_)))
      · simp only [List.length_set]; omega
      · simp only [List.length_set]; omega
      · (apply Back.by ((k + 1, _, _)); focus (refine Wk.keep ?_ ?_ <;> repeat' (first | exact True.intro | refine And.intro rfl ?_ | refine And.intro (congrArg (fun z : Int => AV.v false [Lf.d (.int .i64) z]) (by first | omega | (simp only [Int.natCast_add, List.length_cons, List.length_append, List.length_nil]; omega))) ?_ | refine And.intro ?_ ?_)))
        · refine ⟨hlt, hgr'.out, ?_⟩
          exact (s3.out ((M.getD ((k : Int)).toNat tHk.dflt).1 + g)).trans hset.out
        · show L.length - (k + 1) < L.length - k; omega
    · rw [List.take_of_length_le (by omega), List.drop_eq_nil_of_le (by omega), List.append_nil] at hM
      replace hgr := Lib.hid hgr
      replace hM := Lib.hid hM
      (repeat' (first | (with_reducible refine Cend.go ?_) | (with_reducible refine Step.mk True.intro ?_) | (with_reducible refine Step.mk ?_ ?_; focus (((try simp only [true_and, and_true, and_self, kmin, kmax, decide_eq_true_eq, decide_eq_false_iff_not, castD_self, castL_self, List.length_cons, List.length_nil, List.length_append, Int.natCast_add] at *) <;> omega))) | (with_reducible refine Step.mk ?_ ?_) | (with_reducible refine Way.t1 ?_) | (with_reducible refine Way.f1 ?_) | ((with_reducible refine Way.dec (fun _ => ?_) (fun _ => ?_)) <;> try (exfalso; omega)) | (with_reducible refine Way.nt ?_) | (with_reducible refine Way.mk (fun _ => ?_) (fun _ => ?_)) | (with_reducible refine Drawn.mk (by kernel_rfl) ?_) | (refine Run.mk ?_)))
      · rename_i h
        have h : pC M = 0 := fault_eq h
        have hM' := hM.out
        refine Ret.mk ?_
        rw [show ivP L = M from (if_pos ⟨hp.out, hM' ▸ h⟩).trans hM'.symm, show ivC L = 0 from (if_pos hp.out).trans (if_pos (hM' ▸ h)), show ivI L = 0 from (if_pos hp.out).trans (if_pos (hM' ▸ h))]
        exact ⟨⟨rfl, .frz rfl, True.intro⟩, ⟨rfl, .same, .same, True.intro⟩, True.intro⟩
      · rename_i h
        have h : ¬ pC M = 0 := fault_ne h (pI_good M)
        have hM' := hM.out
        rw [hM'] at h
        refine Ret.mk ?_
        rw [show ivP L = [] from if_neg fun q => h q.2, show ivC L = 10 from (if_pos hp.out).trans (if_neg h), show ivI L = -1 from (if_pos hp.out).trans (if_neg h)]
        exact ⟨⟨rfl, .frz rfl, True.intro⟩, ⟨rfl, .same, .same, True.intro⟩, True.intro⟩
  · have hv : (decide (pC p = 0) && decide (pI p = 0)) = false := by rw [decide_eq_false hp]; rfl
    replace hv := Lib.hid hv
    (refine fnM_of rfl rfl rfl rfl ?_; dsimp only [params, argAV, Ty.leaves, Ty.isSt])
    (repeat' (first | (with_reducible refine Cend.go ?_) | (with_reducible refine Step.mk True.intro ?_) | (with_reducible refine Step.mk ?_ ?_; focus (((try simp only [true_and, and_true, and_self, kmin, kmax, decide_eq_true_eq, decide_eq_false_iff_not, castD_self, castL_self, List.length_cons, List.length_nil, List.length_append, Int.natCast_add] at *) <;> omega))) | (with_reducible refine Step.mk ?_ ?_) | (with_reducible refine Way.t1 ?_) | (with_reducible refine Way.f1 ?_) | ((with_reducible refine Way.dec (fun _ => ?_) (fun _ => ?_)) <;> try (exfalso; omega)) | (with_reducible refine Way.nt ?_) | ((with_reducible refine Way.mk (fun _ => ?_) (fun _ => ?_)) <;> try (exfalso; rename_i hw; first | exact Bool.noConfusion ((Go.RowKit.Hid.out hv).symm.trans hw) | exact Bool.noConfusion (hw.symm.trans (Go.RowKit.Hid.out hv)))) | (with_reducible refine Drawn.mk (by kernel_rfl) ?_) | (refine Run.mk ?_)))
    refine Ret.mk ?_
    rw [show ivP p = [] from if_neg fun h => hp h.1, show ivC p = pC p from if_neg hp, show ivI p = pI p from if_neg hp]
    exact ⟨⟨rfl, .frz rfl, True.intro⟩, ⟨rfl, .same, .same, True.intro⟩, True.intro⟩
end Go.Proofs.Ythacjpemeaekdaa
