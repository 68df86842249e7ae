/- The walk of unified.Fuzzy, with Copy run in place. -/
import Derived.Test.YtppmhjaooiameaaDoorWxUniO
import Derived.Test.YtppmhjaooiameaaDoorWxClone
import Derived.Test.YtppmhjaooiameaaDoorWxOkB
namespace Go.Proofs.YtppmhjaooiameaaDoor
open Go.RowKit
set_option maxRecDepth 20000
set_option linter.unusedSimpArgs false

def sp_Fuzzy : SpecF := pureSp true [.slice .str, tPat, .int .i64] (fun _ => True) (fun (t', p', r', _) => .tu [(false, [.d (.slice .str) (fuT t' p' r')]), (false, [.d (.slice (.int .i64)) (fuL t' p' r')]), (true, [.d (.int .i64) (fuC t' p' r').1, .d (.int .i64) (fuC t' p' r').2])])
set_option maxHeartbeats 2000000 in
theorem Fuzzy_sp : SpFact 9 sp_Fuzzy := by
  refine ⟨⟨Tryd.f9, rfl, rfl, rfl, pureSp_okB (env1_fine (sp := [(25, sp_PValidate), (26, sp_Second), (48, sp_Clone), (28, sp_offset), (29, sp_Raw)]) (eq := [(27, true)])
    (inl := [(27, Tryd.f27), (17, Tryd.f17)]) (cl := [])
    ⟨PValidate_sp, Second_sp, Clone_sp, offset_sp, Raw_sp, True.intro⟩ ⟨eq_fault, True.intro⟩ ⟨⟨rfl, rfl, rfl⟩, ⟨rfl, rfl, rfl⟩, True.intro⟩) rfl ?_⟩, pureSp_loc _ _ _ _⟩
  rintro ⟨t, p, r, u⟩ - -
  change List Hk at p
  change List ByteArray at t
  change Int at r
  by_cases hp : pC p = 0
  · have hv : (decide (pC p = 0) && decide (pI p = 0)) = true := by rw [hp, pI_good p hp]; rfl
    replace hv := Lib.hid hv
    by_cases ht : vC t = 0
    · by_cases hr : r < 0 ∨ 120 < r
      · have eC : fuC t p r = (3, -3) := by unfold fuC; rw [if_neg (fun z => z hp), if_neg (fun z => z ht), if_pos hr]
        have eT : fuT t p r = [] := by unfold fuT; rw [eC]; rfl
        have eL : fuL t p r = [] := by unfold fuL; rw [eC]; rfl
        have hw2 : (decide (vC t = 0) && decide ((if vC t = 0 then 0 else (-2 : Int)) = 0)) = true := by rw [ht]; rfl
        replace hw2 := Lib.hid hw2
        (refine fnM_of rfl rfl rfl rfl ?_; dsimp only [params, argAV, Ty.leaves, Ty.isSt])
        (repeat' (first | (with_reducible refine Cend.go ?_) | (with_reducible refine Step.mk True.intro ?_) | (with_reducible refine Step.mk ?_ ?_; focus (((try simp only [true_and, and_true, and_self, kmin, kmax, decide_eq_true_eq, decide_eq_false_iff_not, castD_self, castL_self, List.length_cons, List.length_nil, List.length_append, Int.natCast_add] at *) <;> omega))) | (with_reducible refine Step.mk ?_ ?_) | (with_reducible refine Way.t1 ?_) | (with_reducible refine Way.f1 ?_) | ((with_reducible refine Way.dec (fun zz => ?_) (fun zz => ?_)) <;> (try simp only [castD_self, castL_self] at zz) <;> try (exfalso; first | omega | contradiction)) | (with_reducible refine Way.nt ?_) | ((with_reducible refine Way.mk (fun _ => ?_) (fun _ => ?_)) <;> try (exfalso; rename_i hw; first | exact Bool.noConfusion ((Go.RowKit.Hid.out hv).symm.trans hw) | exact Bool.noConfusion (hw.symm.trans (Go.RowKit.Hid.out hv)) | exact Bool.noConfusion ((Go.RowKit.Hid.out hw2).symm.trans hw) | exact Bool.noConfusion (hw.symm.trans (Go.RowKit.Hid.out hw2)) | exact Bool.noConfusion ((Go.RowKit.Hid.out hv).symm.trans hw) | exact Bool.noConfusion (hw.symm.trans (Go.RowKit.Hid.out hv)))) | (with_reducible refine Drawn.mk (by kernel_rfl) ?_) | (refine Run.mk ?_)))
        all_goals refine Ret.mk ?_
        all_goals rw [eC, eT, eL]
        all_goals exact ⟨⟨rfl, (by first | exact fbL.nil rfl | exact fbL.row rfl rfl), True.intro⟩, ⟨rfl, (by first | exact fbL.nil rfl | exact fbL.row rfl rfl), True.intro⟩, ⟨rfl, .same rfl, .same rfl, True.intro⟩, True.intro⟩
      · have hr0 : 0 ≤ r := by omega
        have hr1 : r ≤ 120 := by omega
        have hw2 : (decide (vC t = 0) && decide ((if vC t = 0 then 0 else (-2 : Int)) = 0)) = true := by rw [ht]; rfl
        obtain ⟨hlen, hok⟩ := pC_ok hp
        have htl := vC_len t ht
        have hC : fuC t p r = match fuM t r 0 0 p with
          | some i => (19, (i : Int))
          | none => if 120 < (raw t t.length 0 (fuP p (fuO t r 0 p))).length then (10, -1) else (0, 0) := by
          unfold fuC; rw [if_neg (fun z => z hp), if_neg (fun z => z ht), if_neg hr]; rfl
        have hraw := fun h => fu_rawOk (t := t) (r := r) p 0 0 0 hok (Int.le_refl _) (Int.le_refl _) (by omega) h
        replace hok := Lib.hid hok
        replace hw2 := Lib.hid hw2
        replace hC := Lib.hid hC
        replace hraw := Lib.hid hraw
        clear hr
        (refine fnM_of rfl rfl rfl rfl ?_; dsimp only [params, argAV, Ty.leaves, Ty.isSt])
        (repeat' (first | (with_reducible refine Cend.go ?_) | (with_reducible refine Step.mk True.intro ?_) | (with_reducible refine Step.mk ?_ ?_; focus (((try simp only [true_and, and_true, and_self, kmin, kmax, decide_eq_true_eq, decide_eq_false_iff_not, castD_self, castL_self, List.length_cons, List.length_nil, List.length_append, Int.natCast_add] at *) <;> omega))) | (with_reducible refine Step.mk ?_ ?_) | (with_reducible refine Way.t1 ?_) | (with_reducible refine Way.f1 ?_) | ((with_reducible refine Way.dec (fun zz => ?_) (fun zz => ?_)) <;> (try simp only [castD_self, castL_self] at zz) <;> try (exfalso; first | omega | contradiction)) | (with_reducible refine Way.nt ?_) | ((with_reducible refine Way.mk (fun _ => ?_) (fun _ => ?_)) <;> try (exfalso; rename_i hw; first | exact Bool.noConfusion ((Go.RowKit.Hid.out hv).symm.trans hw) | exact Bool.noConfusion (hw.symm.trans (Go.RowKit.Hid.out hv)) | exact Bool.noConfusion ((Go.RowKit.Hid.out hw2).symm.trans hw) | exact Bool.noConfusion (hw.symm.trans (Go.RowKit.Hid.out hw2)) | exact Bool.noConfusion ((Go.RowKit.Hid.out hv).symm.trans hw) | exact Bool.noConfusion (hw.symm.trans (Go.RowKit.Hid.out hv)))) | (with_reducible refine Drawn.mk (by kernel_rfl) ?_) | (refine Run.mk ?_)))
        show LoopG (cH 4 _) _ _ _ _ _ _ _
        refine loop_by (X := Nat × List Hk) (fun x => [.put 2 (.v false [.p 40002 0]), .put 3 (.v false [.p 40003 0]), .put 7 (.v false [.d (.slice tHk) p]), .put 8 (.v false [.d (.int .i64) (p.length : Int)]), .put 9 (.v false [.d (.int .i64) (x.1 : Int)]), .mark, .put 0 (.v false [.d (.slice .str) t]), .put 2 (.v false [.d (.int .i64) r]), .put 4 (.v false [.p 4 0]), .put 8 (.v false [.p 8 0])])
          (fun x => [.put 40003 (.box 25 [.o 91]), .put 91 (.row 41 tHk x.2), .put 40002 (.box 25 [.nl]), .put 8 (.box 27 [.d (.int .i64) 0, .d (.int .i64) 0]), .put 4 (.box 25 [.d (.slice tHk) p])]) (fun x => x.1 ≤ p.length ∧ x.2 = p.take x.1) (fun x => p.length - x.1) (0, []) ⟨Nat.zero_le _, rfl⟩ ?_ ?_
        · refine (Wk.nilbox 40003 0 91 41 tHk (T := 25) (cs := [.nl]) rfl rfl rfl).trans ?_
          (refine Wk.keep ?_ ?_ <;> repeat' (first | exact True.intro | refine And.intro rfl ?_ | refine And.intro (congrArg (fun z : Int => AV.v false [Lf.d (.int .i64) z]) (by first | omega | (simp only [Int.natCast_add, List.length_cons, List.length_append, List.length_nil]; omega))) ?_ | refine And.intro ?_ ?_))
        rintro ⟨k, L⟩ ⟨hk, hL⟩
        dsimp only at hk hL ⊢
        by_cases hlt : k < p.length
        · have hg := getD_at (a := p) tHk.dflt hlt
          have ho := hok.out p[k] (List.getElem_mem hlt)
          rw [← hg] at ho
          obtain ⟨o1, o2, o3, o4⟩ := ho
          have htk : p.take (k + 1) = p.take k ++ [p[k]] := by rw [List.take_add_one, List.getElem?_eq_getElem hlt]; rfl
          have hlk : L.length = k := by rw [hL, List.length_take]; omega
          rw [← hg, ← hL] at htk
          replace hg := Lib.hid hg
          replace htk := Lib.hid htk
          replace hL := Lib.hid hL
          (repeat' (first | (with_reducible refine Cend.go ?_) | (with_reducible refine Step.mk True.intro ?_) | (with_reducible refine Step.mk ?_ ?_; focus (((try simp only [true_and, and_true, and_self, kmin, kmax, decide_eq_true_eq, decide_eq_false_iff_not, castD_self, castL_self, List.length_cons, List.length_nil, List.length_append, Int.natCast_add] at *) <;> omega))) | (with_reducible refine Step.mk ?_ ?_) | (with_reducible refine Way.t1 ?_) | (with_reducible refine Way.f1 ?_) | ((with_reducible refine Way.dec (fun _ => ?_) (fun _ => ?_)) <;> try (exfalso; omega)) | (with_reducible refine Way.nt ?_) | (with_reducible refine Way.mk (fun _ => ?_) (fun _ => ?_)) | (with_reducible refine Drawn.mk (by kernel_rfl) ?_) | (refine Run.mk ?_)))
          (apply Back.by ((k + 1, _)); focus (refine Wk.ren [(91, 40025)] rfl ?_ ?_ <;> repeat' (first | exact True.intro | refine And.intro rfl ?_ | refine And.intro (congrArg (fun z : Int => AV.v false [Lf.d (.int .i64) z]) (by first | omega | (simp only [Int.natCast_add, List.length_cons, List.length_append, List.length_nil]; omega))) ?_ | refine And.intro ?_ ?_)))
          · exact ⟨hlt, htk.out.symm⟩
          · show p.length - (k + 1) < p.length - k; omega
        rw [List.take_of_length_le (by omega)] at hL
        subst hL
        (repeat' (first | (with_reducible refine Cend.go ?_) | (with_reducible refine Step.mk True.intro ?_) | (with_reducible refine Step.mk ?_ ?_; focus (((try simp only [true_and, and_true, and_self, kmin, kmax, decide_eq_true_eq, decide_eq_false_iff_not, castD_self, castL_self, List.length_cons, List.length_nil, List.length_append, Int.natCast_add] at *) <;> omega))) | (with_reducible refine Step.mk ?_ ?_) | (with_reducible refine Way.t1 ?_) | (with_reducible refine Way.f1 ?_) | ((with_reducible refine Way.dec (fun zz => ?_) (fun zz => ?_)) <;> (try simp only [castD_self, castL_self] at zz) <;> try (exfalso; first | omega | contradiction)) | (with_reducible refine Way.nt ?_) | ((with_reducible refine Way.mk (fun _ => ?_) (fun _ => ?_)) <;> try (exfalso; rename_i hw; first | exact Bool.noConfusion ((Go.RowKit.Hid.out hv).symm.trans hw) | exact Bool.noConfusion (hw.symm.trans (Go.RowKit.Hid.out hv)) | exact Bool.noConfusion ((Go.RowKit.Hid.out hw2).symm.trans hw) | exact Bool.noConfusion (hw.symm.trans (Go.RowKit.Hid.out hw2)) | exact Bool.noConfusion ((Go.RowKit.Hid.out hv).symm.trans hw) | exact Bool.noConfusion (hw.symm.trans (Go.RowKit.Hid.out hv)))) | (with_reducible refine Drawn.mk (by kernel_rfl) ?_) | (refine Run.mk ?_)))
        refine loop_by (X := Nat × List Int × List Hk × Int) (fun x => [.put 0 (.v false [.d (.slice .str) t]), .put 2 (.v false [.d (.int .i64) r]), .put 8 (.v false [.p 8 0]), .put 11 (.v false [.p 11 0]), .put 12 (.v false [.o 92]), .put 13 (.v false [.d (.int .i64) x.2.2.2]), .put 41 (.v false [.d (.slice tHk) L]), .put 42 (.v false [.d (.int .i64) (L.length : Int)]), .put 43 (.v false [.d (.int .i64) (x.1 : Int)])])
          (fun x => [.put 11 (.box 25 [.o 91]), .put 91 (.row 41 tHk x.2.2.1), .put 92 (.row 3 (.int .i64) x.2.1), .put 8 (.box 27 [.d (.int .i64) 0, .d (.int .i64) 0])])
          (fun x => x.1 ≤ L.length ∧ fuO t r 0 L = x.2.1 ++ fuO t r x.2.2.2 (L.drop x.1) ∧ fuM t r 0 0 L = fuM t r x.1 x.2.2.2 (L.drop x.1) ∧ x.2.2.1 = fuP (L.take x.1) x.2.1 ++ L.drop x.1 ∧ x.2.1.length = x.1 ∧ 0 ≤ x.2.2.2 ∧ x.2.2.2 ≤ 1000) (fun x => L.length - x.1) (0, [], L, 0) ⟨Nat.zero_le _, rfl, rfl, rfl, rfl, Int.le_refl _, (show (0 : Int) ≤ 1000 by decide)⟩ ?_ ?_
        · refine (Wk.nilrow 12 92 3 (.int .i64) rfl).trans ?_
          (refine Wk.keep ?_ ?_ <;> repeat' (first | exact True.intro | refine And.intro rfl ?_ | refine And.intro (congrArg (fun z : Int => AV.v false [Lf.d (.int .i64) z]) (by first | omega | (simp only [Int.natCast_add, List.length_cons, List.length_append, List.length_nil]; omega))) ?_ | refine And.intro ?_ ?_))
        clear hlt hk
        rintro ⟨i, O, M, least⟩ ⟨hi, hO, hM, hP, hOl, hl0, hl1⟩
        dsimp only at hi hO hM hP hOl hl0 hl1 ⊢
        have hMl : M.length = L.length := by rw [hP, List.length_append, fuP_len, List.length_take, List.length_drop]; omega
        by_cases hit : i < L.length
        · have hg := getD_at (a := L) tHk.dflt hit
          have ho := hok.out L[i] (List.getElem_mem hit)
          rw [← hg] at ho
          cases hd : ofD t L[i] r least with
          | none =>
            have hM2 := hM.trans (fuM_stop hit hd i)
            have eC : fuC t L r = (19, (i : Int)) := by rw [hC.out, hM2]
            have eT : fuT t L r = [] := by unfold fuT; rw [eC]; rfl
            have eL : fuL t L r = [] := by unfold fuL; rw [eC]; rfl
            rw [← hg] at hd
            have hpre : HkOk (L.getD ((i : Int)).toNat tHk.dflt) ∧ (0 ≤ r ∧ r ≤ 120) ∧ -1000000 ≤ least ∧ least ≤ 1000000 := ⟨ho, ⟨hr0, hr1⟩, by omega, by omega⟩
            have hs : (ofD t (L.getD ((i : Int)).toNat tHk.dflt) r least).isSome = false := by rw [hd]; rfl
            replace hpre := Lib.hid hpre
            replace hs := Lib.hid hs
            replace hd := Lib.hid hd
            replace hg := Lib.hid hg
            replace ho := Lib.hid ho
            replace hO := Lib.hid hO
            replace hM := Lib.hid hM
            replace hP := Lib.hid hP
            (repeat' (first | (with_reducible refine Cend.go ?_) | (with_reducible refine Step.mk True.intro ?_) | (with_reducible refine Step.mk ?_ ?_; focus (((try simp only [true_and, and_true, and_self, kmin, kmax, decide_eq_true_eq, decide_eq_false_iff_not, castD_self, castL_self, List.length_cons, List.length_nil, List.length_append, Int.natCast_add] at *) <;> omega))) | (with_reducible refine Step.mk ?_ ?_) | (with_reducible refine Way.t1 ?_) | (with_reducible refine Way.f1 ?_) | ((with_reducible refine Way.dec (fun zz => ?_) (fun zz => ?_)) <;> (try simp only [castD_self, castL_self] at zz) <;> try (exfalso; first | omega | contradiction)) | (with_reducible refine Way.nt ?_) | ((with_reducible refine Way.mk (fun _ => ?_) (fun _ => ?_)) <;> try (exfalso; rename_i hw; first | exact Bool.noConfusion ((Go.RowKit.Hid.out hs).symm.trans hw) | exact Bool.noConfusion (hw.symm.trans (Go.RowKit.Hid.out hs)) | exact Bool.noConfusion ((Go.RowKit.Hid.out hs).symm.trans hw) | exact Bool.noConfusion (hw.symm.trans (Go.RowKit.Hid.out hs)) | exact Bool.noConfusion ((Go.RowKit.Hid.out hs).symm.trans hw) | exact Bool.noConfusion (hw.symm.trans (Go.RowKit.Hid.out hs)))) | (with_reducible refine Drawn.mk (by kernel_rfl) ?_) | (refine Run.mk ?_)))
            · exact hpre.out
            refine Ret.mk ?_
            rw [eC, eT, eL]
            exact ⟨⟨rfl, (by first | exact fbL.nil rfl | exact fbL.row rfl rfl), True.intro⟩, ⟨rfl, (by first | exact fbL.nil rfl | exact fbL.row rfl rfl), True.intro⟩, ⟨rfl, .same rfl, .same rfl, True.intro⟩, True.intro⟩
          | some d =>
            have bd := ofD_bd hr0 hd
            have st1 := fuO_step hit hd
            have st2 := fuM_step hit hd i
            have st3 := fuP_set (d := d) hit hOl
            have mg : (M.getD ((i : Int)).toNat tHk.dflt) = L[i] := by rw [hP, Int.toNat_natCast]; exact fuP_get hit hOl _
            rw [← hg] at hd st1 st2 st3 bd
            rw [← hg] at mg
            have hpre : HkOk (L.getD ((i : Int)).toNat tHk.dflt) ∧ (0 ≤ r ∧ r ≤ 120) ∧ -1000000 ≤ least ∧ least ≤ 1000000 := ⟨ho, ⟨hr0, hr1⟩, by omega, by omega⟩
            have hs : (ofD t (L.getD ((i : Int)).toNat tHk.dflt) r least).isSome = true := by rw [hd]; rfl
            have hD : ((ofD t (L.getD ((i : Int)).toNat tHk.dflt) r least).getD 0) = d := by rw [hd]; rfl
            obtain ⟨b1, b2, b3⟩ := bd
            have b3 : least ≤ (L.getD ((i : Int)).toNat tHk.dflt).1 + d := by
              unfold ofOk at b3
              rw [Bool.and_eq_true, decide_eq_true_eq] at b3
              exact b3.1
            obtain ⟨o1, o2, o3, o4⟩ := ho
            have mg1 : (M.getD ((i : Int)).toNat tHk.dflt).1 = (L.getD ((i : Int)).toNat tHk.dflt).1 := by rw [mg]
            have sg : ∀ X : Hk, (M.set ((i : Int)).toNat X).getD ((i : Int)).toNat tHk.dflt = X := fun X => getD_set_at M _ (by omega) _ _
            have sg1 := congrArg (fun h : Hk => h.1) (sg ((M.getD ((i : Int)).toNat tHk.dflt).1 + ((ofD t (L.getD ((i : Int)).toNat tHk.dflt) r least).getD 0), (M.getD ((i : Int)).toNat tHk.dflt).2))
            have sg2 := congrArg (fun h : Hk => h.2.1.length) (sg ((M.getD ((i : Int)).toNat tHk.dflt).1 + ((ofD t (L.getD ((i : Int)).toNat tHk.dflt) r least).getD 0), (M.getD ((i : Int)).toNat tHk.dflt).2))
            dsimp only at sg1 sg2
            have mg2 : (M.getD ((i : Int)).toNat tHk.dflt).2.1.length = (L.getD ((i : Int)).toNat tHk.dflt).2.1.length := by rw [mg]
            replace hpre := Lib.hid hpre
            replace hs := Lib.hid hs
            replace hd := Lib.hid hd
            replace hg := Lib.hid hg
            replace hO := Lib.hid hO
            replace hM := Lib.hid hM
            replace hP := Lib.hid hP
            replace st1 := Lib.hid st1
            replace st2 := Lib.hid st2
            replace st3 := Lib.hid st3
            replace mg := Lib.hid mg
            replace sg := Lib.hid sg
            (repeat' (first | (with_reducible refine Cend.go ?_) | (with_reducible refine Step.mk True.intro ?_) | (with_reducible refine Step.mk ?_ ?_; focus (((try simp only [true_and, and_true, and_self, kmin, kmax, decide_eq_true_eq, decide_eq_false_iff_not, castD_self, castL_self, List.length_cons, List.length_nil, List.length_append, Int.natCast_add] at *) <;> omega))) | (with_reducible refine Step.mk ?_ ?_) | (with_reducible refine Way.t1 ?_) | (with_reducible refine Way.f1 ?_) | ((with_reducible refine Way.dec (fun zz => ?_) (fun zz => ?_)) <;> (try simp only [castD_self, castL_self] at zz) <;> try (exfalso; first | omega | contradiction)) | (with_reducible refine Way.nt ?_) | ((with_reducible refine Way.mk (fun _ => ?_) (fun _ => ?_)) <;> try (exfalso; rename_i hw; first | exact Bool.noConfusion ((Go.RowKit.Hid.out hs).symm.trans hw) | exact Bool.noConfusion (hw.symm.trans (Go.RowKit.Hid.out hs)) | exact Bool.noConfusion ((Go.RowKit.Hid.out hs).symm.trans hw) | exact Bool.noConfusion (hw.symm.trans (Go.RowKit.Hid.out hs)) | exact Bool.noConfusion ((Go.RowKit.Hid.out hs).symm.trans hw) | exact Bool.noConfusion (hw.symm.trans (Go.RowKit.Hid.out hs)))) | (with_reducible refine Drawn.mk (by kernel_rfl) ?_) | (refine Run.mk ?_)))
            · exact hpre.out
            · show (-9223372036854775808 : Int) ≤ (M.getD ((i : Int)).toNat tHk.dflt).1 + ((ofD t (L.getD ((i : Int)).toNat tHk.dflt) r least).getD 0) ∧ (M.getD ((i : Int)).toNat tHk.dflt).1 + ((ofD t (L.getD ((i : Int)).toNat tHk.dflt) r least).getD 0) ≤ 9223372036854775807
              omega
            · simp only [List.length_set]; omega
            · simp only [List.length_set]; omega
            · show (((M.set ((i : Int)).toNat ((M.getD ((i : Int)).toNat tHk.dflt).1 + ((ofD t (L.getD ((i : Int)).toNat tHk.dflt) r least).getD 0), (M.getD ((i : Int)).toNat tHk.dflt).2)).getD ((i : Int)).toNat tHk.dflt).2.1.length : Int) ≤ 9223372036854775807
              rw [sg.out]
              show ((M.getD ((i : Int)).toNat tHk.dflt).2.1.length : Int) ≤ 9223372036854775807
              omega
            · show (-9223372036854775808 : Int) ≤ ((M.set ((i : Int)).toNat ((M.getD ((i : Int)).toNat tHk.dflt).1 + ((ofD t (L.getD ((i : Int)).toNat tHk.dflt) r least).getD 0), (M.getD ((i : Int)).toNat tHk.dflt).2)).getD ((i : Int)).toNat tHk.dflt).1 + (((M.set ((i : Int)).toNat ((M.getD ((i : Int)).toNat tHk.dflt).1 + ((ofD t (L.getD ((i : Int)).toNat tHk.dflt) r least).getD 0), (M.getD ((i : Int)).toNat tHk.dflt).2)).getD ((i : Int)).toNat tHk.dflt).2.1.length : Int) ∧ ((M.set ((i : Int)).toNat ((M.getD ((i : Int)).toNat tHk.dflt).1 + ((ofD t (L.getD ((i : Int)).toNat tHk.dflt) r least).getD 0), (M.getD ((i : Int)).toNat tHk.dflt).2)).getD ((i : Int)).toNat tHk.dflt).1 + (((M.set ((i : Int)).toNat ((M.getD ((i : Int)).toNat tHk.dflt).1 + ((ofD t (L.getD ((i : Int)).toNat tHk.dflt) r least).getD 0), (M.getD ((i : Int)).toNat tHk.dflt).2)).getD ((i : Int)).toNat tHk.dflt).2.1.length : Int) ≤ 9223372036854775807
              rw [sg.out]
              show (-9223372036854775808 : Int) ≤ (M.getD ((i : Int)).toNat tHk.dflt).1 + ((ofD t (L.getD ((i : Int)).toNat tHk.dflt) r least).getD 0) + ((M.getD ((i : Int)).toNat tHk.dflt).2.1.length : Int) ∧ (M.getD ((i : Int)).toNat tHk.dflt).1 + ((ofD t (L.getD ((i : Int)).toNat tHk.dflt) r least).getD 0) + ((M.getD ((i : Int)).toNat tHk.dflt).2.1.length : Int) ≤ 9223372036854775807
              omega
            · show (-9223372036854775808 : Int) ≤ ((M.set ((i : Int)).toNat ((M.getD ((i : Int)).toNat tHk.dflt).1 + ((ofD t (L.getD ((i : Int)).toNat tHk.dflt) r least).getD 0), (M.getD ((i : Int)).toNat tHk.dflt).2)).getD ((i : Int)).toNat tHk.dflt).1 + (((M.set ((i : Int)).toNat ((M.getD ((i : Int)).toNat tHk.dflt).1 + ((ofD t (L.getD ((i : Int)).toNat tHk.dflt) r least).getD 0), (M.getD ((i : Int)).toNat tHk.dflt).2)).getD ((i : Int)).toNat tHk.dflt).2.1.length : Int) + 1 ∧ ((M.set ((i : Int)).toNat ((M.getD ((i : Int)).toNat tHk.dflt).1 + ((ofD t (L.getD ((i : Int)).toNat tHk.dflt) r least).getD 0), (M.getD ((i : Int)).toNat tHk.dflt).2)).getD ((i : Int)).toNat tHk.dflt).1 + (((M.set ((i : Int)).toNat ((M.getD ((i : Int)).toNat tHk.dflt).1 + ((ofD t (L.getD ((i : Int)).toNat tHk.dflt) r least).getD 0), (M.getD ((i : Int)).toNat tHk.dflt).2)).getD ((i : Int)).toNat tHk.dflt).2.1.length : Int) + 1 ≤ 9223372036854775807
              rw [sg.out]
              show (-9223372036854775808 : Int) ≤ (M.getD ((i : Int)).toNat tHk.dflt).1 + ((ofD t (L.getD ((i : Int)).toNat tHk.dflt) r least).getD 0) + ((M.getD ((i : Int)).toNat tHk.dflt).2.1.length : Int) + 1 ∧ (M.getD ((i : Int)).toNat tHk.dflt).1 + ((ofD t (L.getD ((i : Int)).toNat tHk.dflt) r least).getD 0) + ((M.getD ((i : Int)).toNat tHk.dflt).2.1.length : Int) + 1 ≤ 9223372036854775807
              omega
            · have xe : ((M.set ((i : Int)).toNat ((M.getD ((i : Int)).toNat tHk.dflt).1 + ((ofD t (L.getD ((i : Int)).toNat tHk.dflt) r least).getD 0), (M.getD ((i : Int)).toNat tHk.dflt).2)).getD ((i : Int)).toNat tHk.dflt).1 + (((M.set ((i : Int)).toNat ((M.getD ((i : Int)).toNat tHk.dflt).1 + ((ofD t (L.getD ((i : Int)).toNat tHk.dflt) r least).getD 0), (M.getD ((i : Int)).toNat tHk.dflt).2)).getD ((i : Int)).toNat tHk.dflt).2.1.length : Int) + 1 = (L.getD ((i : Int)).toNat tHk.dflt).1 + d + ((L.getD ((i : Int)).toNat tHk.dflt).2.1.length : Int) + 1 := by
                rw [sg.out]
                show (M.getD ((i : Int)).toNat tHk.dflt).1 + ((ofD t (L.getD ((i : Int)).toNat tHk.dflt) r least).getD 0) + ((M.getD ((i : Int)).toNat tHk.dflt).2.1.length : Int) + 1 = _
                rw [hD, mg.out]
              refine Back.by (i + 1, O ++ [((ofD t (L.getD ((i : Int)).toNat tHk.dflt) r least).getD 0)], (M.set ((i : Int)).toNat ((M.getD ((i : Int)).toNat tHk.dflt).1 + ((ofD t (L.getD ((i : Int)).toNat tHk.dflt) r least).getD 0), (M.getD ((i : Int)).toNat tHk.dflt).2)), ((M.set ((i : Int)).toNat ((M.getD ((i : Int)).toNat tHk.dflt).1 + ((ofD t (L.getD ((i : Int)).toNat tHk.dflt) r least).getD 0), (M.getD ((i : Int)).toNat tHk.dflt).2)).getD ((i : Int)).toNat tHk.dflt).1 + (((M.set ((i : Int)).toNat ((M.getD ((i : Int)).toNat tHk.dflt).1 + ((ofD t (L.getD ((i : Int)).toNat tHk.dflt) r least).getD 0), (M.getD ((i : Int)).toNat tHk.dflt).2)).getD ((i : Int)).toNat tHk.dflt).2.1.length : Int) + 1) ?_ ?_ ?_
              · (refine Wk.ren [(92, 63)] rfl ?_ ?_ <;> repeat' (first | exact True.intro | refine And.intro rfl ?_ | refine And.intro (congrArg (fun z : Int => AV.v false [Lf.d (.int .i64) z]) (by first | omega | (simp only [Int.natCast_add, List.length_cons, List.length_append, List.length_nil]; omega))) ?_ | refine And.intro ?_ ?_))
              · refine ⟨hit, ?_, ?_, ?_, ?_, ?_, ?_⟩
                · dsimp only
                  rw [xe, hD, hO.out, st1.out, List.append_assoc]; rfl
                · dsimp only
                  rw [xe]
                  exact hM.out.trans st2.out
                · dsimp only
                  rw [hD, mg.out, ← st3.out, ← hP.out]
                  rfl
                · dsimp only
                  rw [List.length_append, List.length_singleton, hOl]
                · show 0 ≤ ((M.set ((i : Int)).toNat ((M.getD ((i : Int)).toNat tHk.dflt).1 + ((ofD t (L.getD ((i : Int)).toNat tHk.dflt) r least).getD 0), (M.getD ((i : Int)).toNat tHk.dflt).2)).getD ((i : Int)).toNat tHk.dflt).1 + (((M.set ((i : Int)).toNat ((M.getD ((i : Int)).toNat tHk.dflt).1 + ((ofD t (L.getD ((i : Int)).toNat tHk.dflt) r least).getD 0), (M.getD ((i : Int)).toNat tHk.dflt).2)).getD ((i : Int)).toNat tHk.dflt).2.1.length : Int) + 1
                  rw [xe]; omega
                · show ((M.set ((i : Int)).toNat ((M.getD ((i : Int)).toNat tHk.dflt).1 + ((ofD t (L.getD ((i : Int)).toNat tHk.dflt) r least).getD 0), (M.getD ((i : Int)).toNat tHk.dflt).2)).getD ((i : Int)).toNat tHk.dflt).1 + (((M.set ((i : Int)).toNat ((M.getD ((i : Int)).toNat tHk.dflt).1 + ((ofD t (L.getD ((i : Int)).toNat tHk.dflt) r least).getD 0), (M.getD ((i : Int)).toNat tHk.dflt).2)).getD ((i : Int)).toNat tHk.dflt).2.1.length : Int) + 1 ≤ 1000
                  rw [xe]; omega
              · show L.length - (i + 1) < L.length - i; omega
        · have en : L.drop i = [] := List.drop_eq_nil_of_le (by omega)
          rw [en] at hO hM hP
          rw [List.take_of_length_le (by omega), List.append_nil] at hP
          have hO : fuO t r 0 L = O := hO.trans (List.append_nil O)
          have hM : fuM t r 0 0 L = none := hM
          have hC2 := hC.out
          rw [hM, hO, ← hP] at hC2
          have hrw := hraw.out hM
          rw [hO, ← hP] at hrw
          have hpre : rawOk t t.length 0 M ∧ t.length ≤ 120 ∧ M.length ≤ 130 := ⟨hrw, htl, by omega⟩
          have hrl := raw_len htl (high := (t.length : Int)) M 0 (by rw [hP]; exact fuP_lens L O hok.out)
          by_cases h120 : 120 < (raw t t.length 0 M).length
          · have eC : fuC t L r = (10, -1) := hC2.trans (if_pos h120)
            have eT : fuT t L r = [] := by unfold fuT; rw [eC]; rfl
            have eL : fuL t L r = [] := by unfold fuL; rw [eC]; rfl
            replace hpre := Lib.hid hpre
            replace hO := Lib.hid hO
            replace hP := Lib.hid hP
            clear hC2 hrw
            (repeat' (first | (with_reducible refine Cend.go ?_) | (with_reducible refine Step.mk True.intro ?_) | (with_reducible refine Step.mk ?_ ?_; focus (((try simp only [true_and, and_true, and_self, kmin, kmax, decide_eq_true_eq, decide_eq_false_iff_not, castD_self, castL_self, List.length_cons, List.length_nil, List.length_append, Int.natCast_add] at *) <;> omega))) | (with_reducible refine Step.mk ?_ ?_) | (with_reducible refine Way.t1 ?_) | (with_reducible refine Way.f1 ?_) | ((with_reducible refine Way.dec (fun _ => ?_) (fun _ => ?_)) <;> try (exfalso; omega)) | (with_reducible refine Way.nt ?_) | (with_reducible refine Way.mk (fun _ => ?_) (fun _ => ?_)) | (with_reducible refine Drawn.mk (by kernel_rfl) ?_) | (refine Run.mk ?_)))
            all_goals first
              | exact hpre.out
              | exact (show ((raw t t.length 0 M).length : Int) ≤ 9223372036854775807 from by omega)
              | (exfalso; rename_i zq; have zq : ¬ (120 < ((raw t t.length 0 M).length : Int)) := zq; omega)
              | (refine Ret.mk ?_
                 rw [eC, eT, eL]
                 exact ⟨⟨rfl, (by first | exact fbL.nil rfl | exact fbL.row rfl rfl), True.intro⟩, ⟨rfl, (by first | exact fbL.nil rfl | exact fbL.row rfl rfl), True.intro⟩, ⟨rfl, .same rfl, .same rfl, True.intro⟩, True.intro⟩)
          · have eC : fuC t L r = (0, 0) := hC2.trans (if_neg h120)
            have eT : fuT t L r = raw t t.length 0 M := by unfold fuT; rw [eC, if_pos rfl, hO, ← hP]
            have eL : fuL t L r = O := by unfold fuL; rw [eC, if_pos rfl, hO]
            replace hpre := Lib.hid hpre
            replace hO := Lib.hid hO
            replace hP := Lib.hid hP
            clear hC2 hrw
            (repeat' (first | (with_reducible refine Cend.go ?_) | (with_reducible refine Step.mk True.intro ?_) | (with_reducible refine Step.mk ?_ ?_; focus (((try simp only [true_and, and_true, and_self, kmin, kmax, decide_eq_true_eq, decide_eq_false_iff_not, castD_self, castL_self, List.length_cons, List.length_nil, List.length_append, Int.natCast_add] at *) <;> omega))) | (with_reducible refine Step.mk ?_ ?_) | (with_reducible refine Way.t1 ?_) | (with_reducible refine Way.f1 ?_) | ((with_reducible refine Way.dec (fun _ => ?_) (fun _ => ?_)) <;> try (exfalso; omega)) | (with_reducible refine Way.nt ?_) | (with_reducible refine Way.mk (fun _ => ?_) (fun _ => ?_)) | (with_reducible refine Drawn.mk (by kernel_rfl) ?_) | (refine Run.mk ?_)))
            all_goals first
              | exact hpre.out
              | exact (show ((raw t t.length 0 M).length : Int) ≤ 9223372036854775807 from by omega)
              | (exfalso; rename_i zq; have zq : (120 < ((raw t t.length 0 M).length : Int)) := zq; omega)
              | (refine Ret.mk ?_
                 rw [eC, eT, eL]
                 exact ⟨⟨rfl, (by first | exact fbL.nil rfl | exact fbL.row rfl rfl), True.intro⟩, ⟨rfl, (by first | exact fbL.nil rfl | exact fbL.row rfl rfl), True.intro⟩, ⟨rfl, .same rfl, .same rfl, True.intro⟩, True.intro⟩)
    · have hw2 : (decide (vC t = 0) && decide ((if vC t = 0 then 0 else (-2 : Int)) = 0)) = false := by rw [decide_eq_false ht]; rfl
      have eC : fuC t p r = (vC t, -2) := by unfold fuC; rw [if_neg (fun z => z hp), if_pos ht]
      have eT : fuT t p r = [] := by unfold fuT; rw [eC]; exact if_neg ht
      have eL : fuL t p r = [] := by unfold fuL; rw [eC]; exact if_neg ht
      have e2 : (if vC t = 0 then 0 else (-2 : Int)) = -2 := if_neg ht
      replace hw2 := Lib.hid hw2
      (refine fnM_of rfl rfl rfl rfl ?_; dsimp only [params, argAV, Ty.leaves, Ty.isSt])
      (repeat' (first | (with_reducible refine Cend.go ?_) | (with_reducible refine Step.mk True.intro ?_) | (with_reducible refine Step.mk ?_ ?_; focus (((try simp only [true_and, and_true, and_self, kmin, kmax, decide_eq_true_eq, decide_eq_false_iff_not, castD_self, castL_self, List.length_cons, List.length_nil, List.length_append, Int.natCast_add] at *) <;> omega))) | (with_reducible refine Step.mk ?_ ?_) | (with_reducible refine Way.t1 ?_) | (with_reducible refine Way.f1 ?_) | ((with_reducible refine Way.dec (fun zz => ?_) (fun zz => ?_)) <;> (try simp only [castD_self, castL_self] at zz) <;> try (exfalso; first | omega | contradiction)) | (with_reducible refine Way.nt ?_) | ((with_reducible refine Way.mk (fun _ => ?_) (fun _ => ?_)) <;> try (exfalso; rename_i hw; first | exact Bool.noConfusion ((Go.RowKit.Hid.out hv).symm.trans hw) | exact Bool.noConfusion (hw.symm.trans (Go.RowKit.Hid.out hv)) | exact Bool.noConfusion ((Go.RowKit.Hid.out hw2).symm.trans hw) | exact Bool.noConfusion (hw.symm.trans (Go.RowKit.Hid.out hw2)) | exact Bool.noConfusion ((Go.RowKit.Hid.out hv).symm.trans hw) | exact Bool.noConfusion (hw.symm.trans (Go.RowKit.Hid.out hv)))) | (with_reducible refine Drawn.mk (by kernel_rfl) ?_) | (refine Run.mk ?_)))
      refine Ret.mk ?_
      rw [eC, eT, eL]
      show fbA _ (AV.tu [(false, [Lf.nl]), (false, [Lf.nl]), (true, [Lf.d (.int .i64) (vC t), Lf.d (.int .i64) (if vC t = 0 then 0 else (-2 : Int))])]) _
      rw [e2]
      exact ⟨⟨rfl, (by first | exact fbL.nil rfl | exact fbL.row rfl rfl), True.intro⟩, ⟨rfl, (by first | exact fbL.nil rfl | exact fbL.row rfl rfl), True.intro⟩, ⟨rfl, .same rfl, .same rfl, True.intro⟩, True.intro⟩
  · have hv : (decide (pC p = 0) && decide (pI p = 0)) = false := by rw [decide_eq_false hp]; rfl
    have eC : fuC t p r = (pC p, pI p) := if_pos hp
    have eT : fuT t p r = [] := by unfold fuT; rw [eC]; exact if_neg hp
    have eL : fuL t p r = [] := by unfold fuL; rw [eC]; exact if_neg hp
    replace hv := Lib.hid hv
    (refine fnM_of rfl rfl rfl rfl ?_; dsimp only [params, argAV, Ty.leaves, Ty.isSt])
    (repeat' (first | (with_reducible refine Cend.go ?_) | (with_reducible refine Step.mk True.intro ?_) | (with_reducible refine Step.mk ?_ ?_; focus (((try simp only [true_and, and_true, and_self, kmin, kmax, decide_eq_true_eq, decide_eq_false_iff_not, castD_self, castL_self, List.length_cons, List.length_nil, List.length_append, Int.natCast_add] at *) <;> omega))) | (with_reducible refine Step.mk ?_ ?_) | (with_reducible refine Way.t1 ?_) | (with_reducible refine Way.f1 ?_) | ((with_reducible refine Way.dec (fun _ => ?_) (fun _ => ?_)) <;> try (exfalso; omega)) | (with_reducible refine Way.nt ?_) | ((with_reducible refine Way.mk (fun _ => ?_) (fun _ => ?_)) <;> try (exfalso; rename_i hw; first | exact Bool.noConfusion ((Go.RowKit.Hid.out hv).symm.trans hw) | exact Bool.noConfusion (hw.symm.trans (Go.RowKit.Hid.out hv)))) | (with_reducible refine Drawn.mk (by kernel_rfl) ?_) | (refine Run.mk ?_)))
    refine Ret.mk ?_
    rw [eC, eT, eL]
    exact ⟨⟨rfl, (by first | exact fbL.nil rfl | exact fbL.row rfl rfl), True.intro⟩, ⟨rfl, (by first | exact fbL.nil rfl | exact fbL.row rfl rfl), True.intro⟩, ⟨rfl, .same rfl, .same rfl, True.intro⟩, True.intro⟩
end Go.Proofs.YtppmhjaooiameaaDoor
