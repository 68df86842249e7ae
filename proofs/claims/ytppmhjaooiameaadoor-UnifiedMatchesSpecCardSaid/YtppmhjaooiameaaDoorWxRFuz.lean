/- The walk of the reference's Fuzzy. -/
import Derived.Test.YtppmhjaooiameaaDoorUniRef
import Derived.Test.YtppmhjaooiameaaDoorWxRefAp
import Derived.Test.YtppmhjaooiameaaDoorWxFmt
namespace Go.Proofs.YtppmhjaooiameaaDoor
open Go.RowKit
set_option maxRecDepth 20000
set_option linter.unusedSimpArgs false

def sp_abs : SpecF := pureSp true [.int .i64] (fun (n', _) => -1000000 ≤ (show Int from n') ∧ (show Int from n') ≤ 1000000) (fun (n', _) => .v false [.d (.int .i64) (iabs n')])
theorem abs_sp : SpFact 33 sp_abs := by
  refine ⟨⟨Tryd.f33, rfl, rfl, rfl, pureSp_ok (env_fine (sp := []) (eq := []) True.intro True.intro) rfl (fun _ _ => rfl) ?_⟩, pureSp_loc _ _ _ _⟩
  rintro ⟨n, u⟩ - ⟨h0, h1⟩
  change Int at n
  change -1000000 ≤ n at h0
  change n ≤ 1000000 at h1
  (refine fnM_of rfl rfl rfl rfl ?_; dsimp only [params, argAV, Ty.leaves, Ty.isSt])
  (repeat' (first | (with_reducible refine Cend.go ?_) | (with_reducible refine Step.mk True.intro ?_) | (with_reducible refine Step.mk ?_ ?_; focus (((try simp only [true_and, and_true, and_self, kmin, kmax, decide_eq_true_eq, decide_eq_false_iff_not, castD_self, castL_self, List.length_cons, List.length_nil, List.length_append, Int.natCast_add] at *) <;> omega))) | (with_reducible refine Step.mk ?_ ?_) | (with_reducible refine Way.t1 ?_) | (with_reducible refine Way.f1 ?_) | ((with_reducible refine Way.dec (fun _ => ?_) (fun _ => ?_)) <;> try (exfalso; omega)) | (with_reducible refine Way.nt ?_) | (with_reducible refine Way.mk (fun _ => ?_) (fun _ => ?_)) | (with_reducible refine Drawn.mk (by kernel_rfl) ?_) | (refine Run.mk ?_)))
  · show -9223372036854775808 ≤ -n ∧ -n ≤ 9223372036854775807
    omega
  · rename_i z
    refine Ret.mk ?_
    show AV.v false [Lf.d (.int .i64) (-n)] = AV.v false [Lf.d (.int .i64) (iabs n)]
    rw [iabs, if_pos z]
  · rename_i z
    refine Ret.mk ?_
    show AV.v false [Lf.d (.int .i64) n] = AV.v false [Lf.d (.int .i64) (iabs n)]
    rw [iabs, if_neg z]
def sp_RMv : SpecF := pureSp false [tHk, .int .i64] (fun (h', n', _) => HkB h' ∧ -1000000 ≤ (show Int from n') ∧ (show Int from n') ≤ 1000000) (fun (h', n', _) => .v true [.d (.int .i64) (h'.1 + (show Int from n')), .d (.slice .str) h'.2.1, .d (.slice .str) h'.2.2])
theorem RMv_sp : SpFact 34 sp_RMv := by
  refine ⟨⟨Tryd.f34, rfl, rfl, rfl, pureSp_ok (env_fine (sp := []) (eq := []) True.intro True.intro) rfl (fun _ _ => rfl) ?_⟩, pureSp_loc _ _ _ _⟩
  rintro ⟨⟨a, o, n⟩, d, u⟩ - ⟨⟨h1, h2, h3, h4⟩, h5, h6⟩
  change Int at a d
  change List ByteArray at o n
  replace h1 : -1000000 ≤ a := h1
  replace h2 : a ≤ 1000000 := h2
  replace h5 : -1000000 ≤ d := h5
  replace h6 : d ≤ 1000000 := h6
  (refine fnM_of rfl rfl rfl rfl ?_; dsimp only [params, argAV, Ty.leaves, Ty.isSt])
  (repeat' (first | (with_reducible refine Cend.go ?_) | (with_reducible refine Step.mk True.intro ?_) | (with_reducible refine Step.mk ?_ ?_; focus (((try simp only [true_and, and_true, and_self, kmin, kmax, decide_eq_true_eq, decide_eq_false_iff_not, castD_self, castL_self, List.length_cons, List.length_nil, List.length_append, Int.natCast_add] at *) <;> omega))) | (with_reducible refine Step.mk ?_ ?_) | (with_reducible refine Way.t1 ?_) | (with_reducible refine Way.f1 ?_) | ((with_reducible refine Way.dec (fun _ => ?_) (fun _ => ?_)) <;> try (exfalso; omega)) | (with_reducible refine Way.nt ?_) | (with_reducible refine Way.mk (fun _ => ?_) (fun _ => ?_)) | (with_reducible refine Drawn.mk (by kernel_rfl) ?_) | (refine Run.mk ?_)))
  exact Ret.mk rfl
def sp_RFuzzy : SpecF := pureSp false [.slice .str, tPat, .int .i64] (fun _ => True) (fun (t', p', r', _) => .tu [(false, [.d (.slice .str) (fuT t' p' r')]), (false, [.d (.slice (.int .i64)) (fuL t' p' r')]), (true, [.d (.int .i64) (fuC t' p' r').1, .d (.int .i64) (fuC t' p' r').2])])
set_option maxHeartbeats 2000000 in
theorem RFuzzy_sp : SpFact 10 sp_RFuzzy := by
  refine ⟨⟨Tryd.f10, rfl, rfl, rfl, pureSp_okF (env_fine (sp := [(30, sp_PF), (31, sp_LCode), (22, sp_At), (32, sp_has), (33, sp_abs), (34, sp_RMv), (23, sp_REnd), (21, sp_RApply)]) (eq := [])
    ⟨PF_sp, LCode_sp, At_sp, has_sp, abs_sp, RMv_sp, REnd_sp, RApply_sp, True.intro⟩ True.intro) rfl (fun _ _ => rfl) ?_⟩, pureSp_loc _ _ _ _⟩
  rintro ⟨t, p, r, u⟩ - -
  change List Hk at p
  change List ByteArray at t
  change Int at r
  by_cases hp : pC p = 0
  · have hv := Lib.hid hp
    by_cases ht : vC t = 0
    · by_cases hr : r < 0 ∨ 120 < r
      · have eC : fuC t p r = (3, -3) := by unfold fuC; rw [if_neg (fun z => z hp), if_neg (fun z => z ht), if_pos hr]
        have eT : fuT t p r = [] := by unfold fuT; rw [eC]; rfl
        have eL : fuL t p r = [] := by unfold fuL; rw [eC]; rfl
        (refine fnM_of rfl rfl rfl rfl ?_; dsimp only [params, argAV, Ty.leaves, Ty.isSt])
        (repeat' (first | (with_reducible refine Cend.go ?_) | (with_reducible refine Step.mk True.intro ?_) | (with_reducible refine Step.mk ?_ ?_; focus (((try simp only [true_and, and_true, and_self, kmin, kmax, decide_eq_true_eq, decide_eq_false_iff_not, castD_self, castL_self, List.length_cons, List.length_nil, List.length_append, Int.natCast_add] at *) <;> omega))) | (with_reducible refine Step.mk ?_ ?_) | (with_reducible refine Way.t1 ?_) | (with_reducible refine Way.f1 ?_) | ((with_reducible refine Way.dec (fun zz => ?_) (fun zz => ?_)) <;> (try simp only [castD_self, castL_self] at zz) <;> try (exfalso; first | omega | contradiction)) | (with_reducible refine Way.nt ?_) | ((with_reducible refine Way.mk (fun _ => ?_) (fun _ => ?_)) <;> try (exfalso; rename_i hw; first | exact Bool.noConfusion ((Go.RowKit.Hid.out hv).symm.trans hw) | exact Bool.noConfusion (hw.symm.trans (Go.RowKit.Hid.out hv)))) | (with_reducible refine Drawn.mk (by kernel_rfl) ?_) | (refine Run.mk ?_)))
        all_goals refine Ret.mk ?_
        all_goals rw [eC, eT, eL]
        all_goals exact ⟨⟨rfl, .frz rfl, True.intro⟩, ⟨rfl, .frz rfl, True.intro⟩, ⟨rfl, .same, .same, True.intro⟩, True.intro⟩
      · have hr0 : 0 ≤ r := by omega
        have hr1 : r ≤ 120 := by omega
        have hC : fuC t p r = match fuM t r 0 0 p with
          | some i => (19, (i : Int))
          | none => if 120 < (raw t t.length 0 (fuP p (fuO t r 0 p))).length then (10, -1) else (0, 0) := by
          unfold fuC; rw [if_neg (fun z => z hp), if_neg (fun z => z ht), if_neg hr]; rfl
        obtain ⟨hlen, hok⟩ := pC_ok hp
        have htl := vC_len t ht
        have hap := fu_apF hr0 hp ht
        replace hok := Lib.hid hok
        replace hC := Lib.hid hC
        replace hap := Lib.hid hap
        clear hr
        (refine fnM_of rfl rfl rfl rfl ?_; dsimp only [params, argAV, Ty.leaves, Ty.isSt])
        (repeat' (first | (with_reducible refine Cend.go ?_) | (with_reducible refine Step.mk True.intro ?_) | (with_reducible refine Step.mk ?_ ?_; focus (((try simp only [true_and, and_true, and_self, kmin, kmax, decide_eq_true_eq, decide_eq_false_iff_not, castD_self, castL_self, List.length_cons, List.length_nil, List.length_append, Int.natCast_add] at *) <;> omega))) | (with_reducible refine Step.mk ?_ ?_) | (with_reducible refine Way.t1 ?_) | (with_reducible refine Way.f1 ?_) | ((with_reducible refine Way.dec (fun zz => ?_) (fun zz => ?_)) <;> (try simp only [castD_self, castL_self] at zz) <;> try (exfalso; first | omega | contradiction)) | (with_reducible refine Way.nt ?_) | ((with_reducible refine Way.mk (fun _ => ?_) (fun _ => ?_)) <;> try (exfalso; rename_i hw; first | exact Bool.noConfusion ((Go.RowKit.Hid.out hv).symm.trans hw) | exact Bool.noConfusion (hw.symm.trans (Go.RowKit.Hid.out hv)))) | (with_reducible refine Drawn.mk (by kernel_rfl) ?_) | (refine Run.mk ?_)))
        refine loop_by (X := Nat × List Int × List Hk × Int) (fun x => [.put 0 (.v false [.d (.slice .str) t]), .put 2 (.v false [.d (.int .i64) r]), .put 4 (.v false [.p 4 0]), .put 8 (.v false [.p 8 0]), .put 11 (.v false [.o 191]), .put 12 (.v false [.p 12 0]), .put 13 (.v false [.d (.int .i64) x.2.2.2]), .put 14 (.v false [.d (.int .i64) (x.1 : Int)])])
          (fun x => [.put 12 (.box 25 [.o 192]), .put 192 (.row 41 tHk x.2.2.1), .put 191 (.row 3 (.int .i64) x.2.1), .put 4 (.box 25 [.d (.slice tHk) p]), .put 8 (.box 27 [.d (.int .i64) 0, .d (.int .i64) 0])])
          (fun x => x.1 ≤ p.length ∧ fuO t r 0 p = x.2.1 ++ fuO t r x.2.2.2 (p.drop x.1) ∧ fuM t r 0 0 p = fuM t r x.1 x.2.2.2 (p.drop x.1) ∧ x.2.2.1 = fuP (p.take x.1) x.2.1 ∧ x.2.1.length = x.1 ∧ 0 ≤ x.2.2.2 ∧ x.2.2.2 ≤ 1000) (fun x => p.length - x.1) (0, [], [], 0) ⟨Nat.zero_le _, rfl, rfl, rfl, rfl, Int.le_refl _, by show (0 : Int) ≤ 1000; omega⟩ ?_ ?_
        · refine (Wk.nilrow 11 191 3 (.int .i64) rfl).trans ((Wk.nilbox 12 0 192 41 tHk (T := 25) (cs := [.nl]) rfl rfl rfl).trans ?_)
          (refine Wk.keep ?_ ?_ <;> repeat' (first | exact True.intro | refine And.intro rfl ?_ | refine And.intro (congrArg (fun z : Int => AV.v false [Lf.d (.int .i64) z]) (by first | omega | (simp only [Int.natCast_add, List.length_cons, List.length_append, List.length_nil]; omega))) ?_ | refine And.intro ?_ ?_))
        rintro ⟨i, O, M, least⟩ ⟨hi, hO, hM, hP, hOl, hl0, hl1⟩
        dsimp only at hi hO hM hP hOl hl0 hl1 ⊢
        have hMl : M.length = i := by rw [hP, fuP_len, List.length_take]; omega
        by_cases hit : i < p.length
        · have hg := getD_at (a := p) tHk.dflt hit
          have ho := hok.out p[i] (List.getElem_mem hit)
          have hb := bst_of (t := t) (h := p[i]) (least := least) hr0
          rw [← hg] at ho hb
          have hob := ho.b
          obtain ⟨o1, o2, o3, o4⟩ := ho
          replace hg := Lib.hid hg
          replace hO := Lib.hid hO
          replace hM := Lib.hid hM
          replace hP := Lib.hid hP
          replace hb := Lib.hid hb
          replace hob := Lib.hid hob
          (repeat' (first | (with_reducible refine Cend.go ?_) | (with_reducible refine Step.mk True.intro ?_) | (with_reducible refine Step.mk ?_ ?_; focus (((try simp only [true_and, and_true, and_self, kmin, kmax, decide_eq_true_eq, decide_eq_false_iff_not, castD_self, castL_self, List.length_cons, List.length_nil, List.length_append, Int.natCast_add] at *) <;> omega))) | (with_reducible refine Step.mk ?_ ?_) | (with_reducible refine Way.t1 ?_) | (with_reducible refine Way.f1 ?_) | ((with_reducible refine Way.dec (fun zz => ?_) (fun zz => ?_)) <;> (try simp only [castD_self, castL_self] at zz) <;> try (exfalso; first | omega | contradiction)) | (with_reducible refine Way.nt ?_) | ((with_reducible refine Way.mk (fun _ => ?_) (fun _ => ?_)) <;> try (exfalso; rename_i hw; first | exact Bool.noConfusion ((Go.RowKit.Hid.out hv).symm.trans hw) | exact Bool.noConfusion (hw.symm.trans (Go.RowKit.Hid.out hv)))) | (with_reducible refine Drawn.mk (by kernel_rfl) ?_) | (refine Run.mk ?_)))
          · show -9223372036854775808 ≤ -r ∧ -r ≤ 9223372036854775807
            omega
          refine loop_by (X := Int × Int) (fun y => [.put 0 (.v false [.d (.slice .str) t]), .put 2 (.v false [.d (.int .i64) r]), .put 4 (.v false [.p 4 0]), .put 8 (.v false [.p 8 0]), .put 11 (.v false [.o 191]), .put 12 (.v false [.p 12 0]), .put 13 (.v false [.d (.int .i64) least]), .put 14 (.v false [.d (.int .i64) (i : Int)]), .put 15 (.v false [.p 15 0]), .put 16 (.v false [.d (.int .i64) y.2]), .put 17 (.v false [.d (.int .i64) y.1])])
            (fun _ => [.put 15 (.box 41 (tHk.leaves (p.getD ((i : Int)).toNat tHk.dflt))), .put 12 (.box 25 [.o 192]), .put 192 (.row 41 tHk M), .put 191 (.row 3 (.int .i64) O), .put 4 (.box 25 [.d (.slice tHk) p]), .put 8 (.box 27 [.d (.int .i64) 0, .d (.int .i64) 0])])
            (fun y => -r ≤ y.1 ∧ y.1 ≤ r + 1 ∧ (-r ≤ y.2 ∧ y.2 ≤ r + 1) ∧ bstF t (p.getD ((i : Int)).toNat tHk.dflt) least (2 * r + 1).toNat (-r) (r + 1) = bstF t (p.getD ((i : Int)).toNat tHk.dflt) least (r + 1 - y.1).toNat y.1 y.2) (fun y => (r + 1 - y.1).toNat) (-r, r + 1) ⟨Int.le_refl _, by show -r ≤ r + 1; omega, ⟨by show -r ≤ r + 1; omega, Int.le_refl _⟩, by rw [show r + 1 - -r = 2 * r + 1 by omega]⟩ ?_ ?_
          · (refine Wk.keep ?_ ?_ <;> repeat' (first | exact True.intro | refine And.intro rfl ?_ | refine And.intro (congrArg (fun z : Int => AV.v false [Lf.d (.int .i64) z]) (by first | omega | (simp only [Int.natCast_add, List.length_cons, List.length_append, List.length_nil]; omega))) ?_ | refine And.intro ?_ ?_))
          rintro ⟨d, b⟩ ⟨hd0, hd1, ⟨hb0, hb1⟩, hbd⟩
          dsimp only at hd0 hd1 hb0 hb1 hbd ⊢
          by_cases hdr : d ≤ r
          · obtain ⟨m, hm⟩ : ∃ m, (r + 1 - d).toNat = m + 1 := ⟨(r - d).toNat, by omega⟩
            have hm2 : (r + 1 - (d + 1)).toNat = m := by omega
            rw [hm] at hbd
            have hst : bstF t (p.getD ((i : Int)).toNat tHk.dflt) least (m + 1) d b = bstF t (p.getD ((i : Int)).toNat tHk.dflt) least m (d + 1) (if ofOk t (p.getD ((i : Int)).toNat tHk.dflt) least d = true ∧ iabs d < iabs b then d else b) := rfl
            have okT : least ≤ (p.getD ((i : Int)).toNat tHk.dflt).1 + d → occ t (p.getD ((i : Int)).toNat tHk.dflt).2.1 ((p.getD ((i : Int)).toNat tHk.dflt).1 + d) = true → ofOk t (p.getD ((i : Int)).toNat tHk.dflt) least d = true := fun z y => by unfold ofOk; rw [y, decide_eq_true z]; rfl
            have okF1 : ¬ least ≤ (p.getD ((i : Int)).toNat tHk.dflt).1 + d → ofOk t (p.getD ((i : Int)).toNat tHk.dflt) least d = false := fun z => by unfold ofOk; rw [decide_eq_false z]; rfl
            have okF2 : occ t (p.getD ((i : Int)).toNat tHk.dflt).2.1 ((p.getD ((i : Int)).toNat tHk.dflt).1 + d) = false → ofOk t (p.getD ((i : Int)).toNat tHk.dflt) least d = false := fun y => by unfold ofOk; rw [y, Bool.and_false]
            replace hbd := Lib.hid hbd
            replace hst := Lib.hid hst
            replace okT := Lib.hid okT
            replace okF1 := Lib.hid okF1
            replace okF2 := Lib.hid okF2
            (repeat' (first | (with_reducible refine Cend.go ?_) | (with_reducible refine Step.mk True.intro ?_) | (with_reducible refine Step.mk ?_ ?_; focus (((try simp only [true_and, and_true, and_self, kmin, kmax, decide_eq_true_eq, decide_eq_false_iff_not, castD_self, castL_self, List.length_cons, List.length_nil, List.length_append, Int.natCast_add] at *) <;> omega))) | (with_reducible refine Step.mk ?_ ?_) | (with_reducible refine Way.t1 ?_) | (with_reducible refine Way.f1 ?_) | ((with_reducible refine Way.dec (fun zz => ?_) (fun zz => ?_)) <;> (try simp only [castD_self, castL_self] at zz) <;> try (exfalso; first | omega | contradiction)) | (with_reducible refine Way.nt ?_) | ((with_reducible refine Way.mk (fun _ => ?_) (fun _ => ?_)) <;> try (exfalso; rename_i hw; first | exact Bool.noConfusion ((Go.RowKit.Hid.out hv).symm.trans hw) | exact Bool.noConfusion (hw.symm.trans (Go.RowKit.Hid.out hv)))) | (with_reducible refine Drawn.mk (by kernel_rfl) ?_) | (refine Run.mk ?_)))
            · exact (show -1000000 ≤ (p.getD ((i : Int)).toNat tHk.dflt).1 + d ∧ (p.getD ((i : Int)).toNat tHk.dflt).1 + d ≤ 1000000 ∧ (p.getD ((i : Int)).toNat tHk.dflt).2.1.length ≤ 1000000 from ⟨by omega, by omega, by omega⟩)
            · rename_i q1 q2 q3
              have hk := okT.out q2 q3
              refine Back.by (d + 1, d) ?_ ⟨by show -r ≤ d + 1; omega, by show d + 1 ≤ r + 1; omega, ⟨hd0, by show d ≤ r + 1; omega⟩, ?_⟩ ?_
              · (refine Wk.keep ?_ ?_ <;> repeat' (first | exact True.intro | refine And.intro rfl ?_ | refine And.intro (congrArg (fun z : Int => AV.v false [Lf.d (.int .i64) z]) (by first | omega | (simp only [Int.natCast_add, List.length_cons, List.length_append, List.length_nil]; omega))) ?_ | refine And.intro ?_ ?_))
              · dsimp only
                rw [hbd.out, hst.out, if_pos ⟨hk, zz⟩, hm2]
              · show (r + 1 - (d + 1)).toNat < (r + 1 - d).toNat; omega
            · refine Back.by (d + 1, b) ?_ ⟨by show -r ≤ d + 1; omega, by show d + 1 ≤ r + 1; omega, ⟨hb0, hb1⟩, ?_⟩ ?_
              · (refine Wk.keep ?_ ?_ <;> repeat' (first | exact True.intro | refine And.intro rfl ?_ | refine And.intro (congrArg (fun z : Int => AV.v false [Lf.d (.int .i64) z]) (by first | omega | (simp only [Int.natCast_add, List.length_cons, List.length_append, List.length_nil]; omega))) ?_ | refine And.intro ?_ ?_))
              · dsimp only
                rw [hbd.out, hst.out, if_neg (fun z => zz z.2), hm2]
              · show (r + 1 - (d + 1)).toNat < (r + 1 - d).toNat; omega
            · rename_i q1 q2
              have hk := okF2.out q2
              refine Back.by (d + 1, b) ?_ ⟨by show -r ≤ d + 1; omega, by show d + 1 ≤ r + 1; omega, ⟨hb0, hb1⟩, ?_⟩ ?_
              · (refine Wk.keep ?_ ?_ <;> repeat' (first | exact True.intro | refine And.intro rfl ?_ | refine And.intro (congrArg (fun z : Int => AV.v false [Lf.d (.int .i64) z]) (by first | omega | (simp only [Int.natCast_add, List.length_cons, List.length_append, List.length_nil]; omega))) ?_ | refine And.intro ?_ ?_))
              · dsimp only
                rw [hbd.out, hst.out, if_neg (fun z => by have := z.1; rw [hk] at this; cases this), hm2]
              · show (r + 1 - (d + 1)).toNat < (r + 1 - d).toNat; omega
            · have hk := okF1.out zz
              refine Back.by (d + 1, b) ?_ ⟨by show -r ≤ d + 1; omega, by show d + 1 ≤ r + 1; omega, ⟨hb0, hb1⟩, ?_⟩ ?_
              · (refine Wk.keep ?_ ?_ <;> repeat' (first | exact True.intro | refine And.intro rfl ?_ | refine And.intro (congrArg (fun z : Int => AV.v false [Lf.d (.int .i64) z]) (by first | omega | (simp only [Int.natCast_add, List.length_cons, List.length_append, List.length_nil]; omega))) ?_ | refine And.intro ?_ ?_))
              · dsimp only
                rw [hbd.out, hst.out, if_neg (fun z => by have := z.1; rw [hk] at this; cases this), hm2]
              · show (r + 1 - (d + 1)).toNat < (r + 1 - d).toNat; omega
          · obtain rfl : d = r + 1 := by omega
            have hbb : b = (ofD t (p.getD ((i : Int)).toNat tHk.dflt) r least).getD (r + 1) := by
              rw [← hb.out, hbd, show r + 1 - (r + 1) = 0 by omega]; rfl
            clear hbd
            cases hd : ofD t (p.getD ((i : Int)).toNat tHk.dflt) r least with
            | none =>
              rw [hd] at hbb
              have hbb : b = r + 1 := hbb
              have hM2 := hM.out.trans (fuM_stop hit (by rw [← hg.out]; exact hd) i)
              have eC : fuC t p r = (19, (i : Int)) := by rw [hC.out, hM2]
              have eT : fuT t p r = [] := by unfold fuT; rw [eC]; rfl
              have eL : fuL t p r = [] := by unfold fuL; rw [eC]; rfl
              subst hbb
              replace hd := Lib.hid hd
              (repeat' (first | (with_reducible refine Cend.go ?_) | (with_reducible refine Step.mk True.intro ?_) | (with_reducible refine Step.mk ?_ ?_; focus (((try simp only [true_and, and_true, and_self, kmin, kmax, decide_eq_true_eq, decide_eq_false_iff_not, castD_self, castL_self, List.length_cons, List.length_nil, List.length_append, Int.natCast_add] at *) <;> omega))) | (with_reducible refine Step.mk ?_ ?_) | (with_reducible refine Way.t1 ?_) | (with_reducible refine Way.f1 ?_) | ((with_reducible refine Way.dec (fun zz => ?_) (fun zz => ?_)) <;> (try simp only [castD_self, castL_self] at zz) <;> try (exfalso; first | omega | contradiction)) | (with_reducible refine Way.nt ?_) | ((with_reducible refine Way.mk (fun _ => ?_) (fun _ => ?_)) <;> try (exfalso; rename_i hw; first | exact Bool.noConfusion ((Go.RowKit.Hid.out hv).symm.trans hw) | exact Bool.noConfusion (hw.symm.trans (Go.RowKit.Hid.out hv)))) | (with_reducible refine Drawn.mk (by kernel_rfl) ?_) | (refine Run.mk ?_)))
              all_goals refine Ret.mk ?_
              all_goals rw [eC, eT, eL]
              all_goals exact ⟨⟨rfl, .frz rfl, True.intro⟩, ⟨rfl, .frz rfl, True.intro⟩, ⟨rfl, .same, .same, True.intro⟩, True.intro⟩
            | some x =>
              rw [hd] at hbb
              have hbb : b = x := hbb
              have bd := ofD_bd hr0 hd
              have hE : hkEnd (p.getD ((i : Int)).toNat tHk.dflt) = (p.getD ((i : Int)).toNat tHk.dflt).1 + ((p.getD ((i : Int)).toNat tHk.dflt).2.1.length : Int) := rfl
              have st1 := fuO_step (t := t) (r := r) (least := least) (d := x) (p := p) hit (by rw [← hg.out]; exact hd)
              have st2 := fuM_step (t := t) (r := r) (least := least) (d := x) (p := p) hit (by rw [← hg.out]; exact hd) i
              have htk : fuP (p.take (i + 1)) (O ++ [x]) = fuP (p.take i) O ++ [((p.getD ((i : Int)).toNat tHk.dflt).1 + x, (p.getD ((i : Int)).toNat tHk.dflt).2)] := by
                rw [List.take_add_one, List.getElem?_eq_getElem hit, Option.toList_some, fuP_app _ _ _ _ (by rw [List.length_take]; omega), ← hg.out]; rfl
              rw [← hg.out] at st1 st2
              obtain ⟨b1, b2, b3⟩ := bd
              have b3 : least ≤ (p.getD ((i : Int)).toNat tHk.dflt).1 + x := by
                unfold ofOk at b3
                rw [Bool.and_eq_true, decide_eq_true_eq] at b3
                exact b3.1
              subst hbb
              replace hd := Lib.hid hd
              replace st1 := Lib.hid st1
              replace st2 := Lib.hid st2
              replace htk := Lib.hid htk
              (repeat' (first | (with_reducible refine Cend.go ?_) | (with_reducible refine Step.mk True.intro ?_) | (with_reducible refine Step.mk ?_ ?_; focus (((try simp only [true_and, and_true, and_self, kmin, kmax, decide_eq_true_eq, decide_eq_false_iff_not, castD_self, castL_self, List.length_cons, List.length_nil, List.length_append, Int.natCast_add] at *) <;> omega))) | (with_reducible refine Step.mk ?_ ?_) | (with_reducible refine Way.t1 ?_) | (with_reducible refine Way.f1 ?_) | ((with_reducible refine Way.dec (fun zz => ?_) (fun zz => ?_)) <;> (try simp only [castD_self, castL_self] at zz) <;> try (exfalso; first | omega | contradiction)) | (with_reducible refine Way.nt ?_) | ((with_reducible refine Way.mk (fun _ => ?_) (fun _ => ?_)) <;> try (exfalso; rename_i hw; first | exact Bool.noConfusion ((Go.RowKit.Hid.out hv).symm.trans hw) | exact Bool.noConfusion (hw.symm.trans (Go.RowKit.Hid.out hv)))) | (with_reducible refine Drawn.mk (by kernel_rfl) ?_) | (refine Run.mk ?_)))
              · exact ⟨hob.out, show -1000000 ≤ b by omega, show b ≤ 1000000 by omega⟩
              · exact hob.out
              · show -9223372036854775808 ≤ hkEnd (p.getD ((i : Int)).toNat tHk.dflt) + b ∧ hkEnd (p.getD ((i : Int)).toNat tHk.dflt) + b ≤ 9223372036854775807
                omega
              · show -9223372036854775808 ≤ hkEnd (p.getD ((i : Int)).toNat tHk.dflt) + b + 1 ∧ hkEnd (p.getD ((i : Int)).toNat tHk.dflt) + b + 1 ≤ 9223372036854775807
                omega
              refine Back.by (i + 1, O ++ [b], M ++ [((p.getD ((i : Int)).toNat tHk.dflt).1 + b, (p.getD ((i : Int)).toNat tHk.dflt).2)], hkEnd (p.getD ((i : Int)).toNat tHk.dflt) + b + 1) ?_ ?_ ?_
              · (refine Wk.ren [(191, 92), (192, 99)] rfl ?_ ?_ <;> repeat' (first | exact True.intro | refine And.intro rfl ?_ | refine And.intro (congrArg (fun z : Int => AV.v false [Lf.d (.int .i64) z]) (by first | omega | (simp only [Int.natCast_add, List.length_cons, List.length_append, List.length_nil]; omega))) ?_ | refine And.intro ?_ ?_))
              · have el : hkEnd (p.getD ((i : Int)).toNat tHk.dflt) + b + 1 = (p.getD ((i : Int)).toNat tHk.dflt).1 + b + ((p.getD ((i : Int)).toNat tHk.dflt).2.1.length : Int) + 1 := by omega
                refine ⟨hit, ?_, ?_, ?_, ?_, by show 0 ≤ hkEnd (p.getD ((i : Int)).toNat tHk.dflt) + b + 1; omega, by show hkEnd (p.getD ((i : Int)).toNat tHk.dflt) + b + 1 ≤ 1000; omega⟩
                · dsimp only
                  rw [hO.out, st1.out, el, List.append_assoc]; rfl
                · dsimp only
                  rw [hM.out, st2.out, el]
                · dsimp only
                  rw [htk.out, ← hP.out]
                · show (O ++ [b]).length = i + 1
                  rw [List.length_append, List.length_singleton, hOl]
              · show p.length - (i + 1) < p.length - i; omega
        · have en : p.drop i = [] := List.drop_eq_nil_of_le (by omega)
          rw [en] at hO hM
          rw [List.take_of_length_le (by omega)] at hP
          have hO : fuO t r 0 p = O := hO.trans (List.append_nil O)
          have hM : fuM t r 0 0 p = none := hM
          have hC2 := hC.out
          have hap2 := hap.out hM
          rw [hM, hO, ← hP] at hC2
          rw [hO, ← hP] at hap2
          clear en
          by_cases h120 : 120 < (raw t t.length 0 M).length
          · have eC : fuC t p r = (10, -1) := hC2.trans (if_pos h120)
            have eT : fuT t p r = [] := by unfold fuT; rw [eC]; rfl
            have eL : fuL t p r = [] := by unfold fuL; rw [eC]; rfl
            rw [if_pos h120] at hap2
            have hv3 : ¬ (apF M t).1 = 0 := by rw [hap2]; decide
            replace hO := Lib.hid hO
            replace hP := Lib.hid hP
            clear hC2
            (repeat' (first | (with_reducible refine Cend.go ?_) | (with_reducible refine Step.mk True.intro ?_) | (with_reducible refine Step.mk ?_ ?_; focus (((try simp only [true_and, and_true, and_self, kmin, kmax, decide_eq_true_eq, decide_eq_false_iff_not, castD_self, castL_self, List.length_cons, List.length_nil, List.length_append, Int.natCast_add] at *) <;> omega))) | (with_reducible refine Step.mk ?_ ?_) | (with_reducible refine Way.t1 ?_) | (with_reducible refine Way.f1 ?_) | ((with_reducible refine Way.dec (fun zz => ?_) (fun zz => ?_)) <;> (try simp only [castD_self, castL_self] at zz) <;> try (exfalso; first | omega | contradiction)) | (with_reducible refine Way.nt ?_) | ((with_reducible refine Way.mk (fun _ => ?_) (fun _ => ?_)) <;> try (exfalso; rename_i hw; first | exact Bool.noConfusion ((Go.RowKit.Hid.out hv).symm.trans hw) | exact Bool.noConfusion (hw.symm.trans (Go.RowKit.Hid.out hv)))) | (with_reducible refine Drawn.mk (by kernel_rfl) ?_) | (refine Run.mk ?_)))
            all_goals first
              | (exact absurd zz hv3)
              | (refine Ret.mk ?_
                 rw [eC, eT, eL]
                 exact ⟨⟨rfl, .frz rfl, True.intro⟩, ⟨rfl, .frz rfl, True.intro⟩, ⟨rfl, .same, .same, True.intro⟩, True.intro⟩)
              | skip
          · have eC : fuC t p r = (0, 0) := hC2.trans (if_neg h120)
            have eT : fuT t p r = raw t t.length 0 M := by unfold fuT; rw [eC, if_pos rfl, hO, ← hP]
            have eL : fuL t p r = O := by unfold fuL; rw [eC, if_pos rfl, hO]
            rw [if_neg h120] at hap2
            have hv3 : (apF M t).1 = 0 := by rw [hap2]
            have eA : apL M t = raw t t.length 0 M := if_pos hv3
            replace hO := Lib.hid hO
            replace hP := Lib.hid hP
            clear hC2
            rw [← eA] at eT
            (repeat' (first | (with_reducible refine Cend.go ?_) | (with_reducible refine Step.mk True.intro ?_) | (with_reducible refine Step.mk ?_ ?_; focus (((try simp only [true_and, and_true, and_self, kmin, kmax, decide_eq_true_eq, decide_eq_false_iff_not, castD_self, castL_self, List.length_cons, List.length_nil, List.length_append, Int.natCast_add] at *) <;> omega))) | (with_reducible refine Step.mk ?_ ?_) | (with_reducible refine Way.t1 ?_) | (with_reducible refine Way.f1 ?_) | ((with_reducible refine Way.dec (fun zz => ?_) (fun zz => ?_)) <;> (try simp only [castD_self, castL_self] at zz) <;> try (exfalso; first | omega | contradiction)) | (with_reducible refine Way.nt ?_) | ((with_reducible refine Way.mk (fun _ => ?_) (fun _ => ?_)) <;> try (exfalso; rename_i hw; first | exact Bool.noConfusion ((Go.RowKit.Hid.out hv).symm.trans hw) | exact Bool.noConfusion (hw.symm.trans (Go.RowKit.Hid.out hv)))) | (with_reducible refine Drawn.mk (by kernel_rfl) ?_) | (refine Run.mk ?_)))
            all_goals first
              | (exact absurd hv3 zz)
              | (refine Ret.mk ?_
                 rw [eC, eT, eL]
                 exact ⟨⟨rfl, .same, True.intro⟩, ⟨rfl, .frz rfl, True.intro⟩, ⟨rfl, .same, .same, True.intro⟩, True.intro⟩)
              | skip
    · have eC : fuC t p r = (vC t, -2) := by unfold fuC; rw [if_neg (fun z => z hp), if_pos ht]
      have eT : fuT t p r = [] := by unfold fuT; rw [eC]; exact if_neg ht
      have eL : fuL t p r = [] := by unfold fuL; rw [eC]; exact if_neg ht
      have hv2 := Lib.hid ht
      (refine fnM_of rfl rfl rfl rfl ?_; dsimp only [params, argAV, Ty.leaves, Ty.isSt])
      (repeat' (first | (with_reducible refine Cend.go ?_) | (with_reducible refine Step.mk True.intro ?_) | (with_reducible refine Step.mk ?_ ?_; focus (((try simp only [true_and, and_true, and_self, kmin, kmax, decide_eq_true_eq, decide_eq_false_iff_not, castD_self, castL_self, List.length_cons, List.length_nil, List.length_append, Int.natCast_add] at *) <;> omega))) | (with_reducible refine Step.mk ?_ ?_) | (with_reducible refine Way.t1 ?_) | (with_reducible refine Way.f1 ?_) | ((with_reducible refine Way.dec (fun zz => ?_) (fun zz => ?_)) <;> (try simp only [castD_self, castL_self] at zz) <;> try (exfalso; first | omega | contradiction)) | (with_reducible refine Way.nt ?_) | ((with_reducible refine Way.mk (fun _ => ?_) (fun _ => ?_)) <;> try (exfalso; rename_i hw; first | exact Bool.noConfusion ((Go.RowKit.Hid.out hv).symm.trans hw) | exact Bool.noConfusion (hw.symm.trans (Go.RowKit.Hid.out hv)))) | (with_reducible refine Drawn.mk (by kernel_rfl) ?_) | (refine Run.mk ?_)))
      all_goals refine Ret.mk ?_
      all_goals rw [eC, eT, eL]
      all_goals exact ⟨⟨rfl, .frz rfl, True.intro⟩, ⟨rfl, .frz rfl, True.intro⟩, ⟨rfl, .same, .same, True.intro⟩, True.intro⟩
  · have hv := Lib.hid hp
    have eC : fuC t p r = (pC p, pI p) := if_pos hp
    have eT : fuT t p r = [] := by unfold fuT; rw [eC]; exact if_neg hp
    have eL : fuL t p r = [] := by unfold fuL; rw [eC]; exact if_neg hp
    (refine fnM_of rfl rfl rfl rfl ?_; dsimp only [params, argAV, Ty.leaves, Ty.isSt])
    (repeat' (first | (with_reducible refine Cend.go ?_) | (with_reducible refine Step.mk True.intro ?_) | (with_reducible refine Step.mk ?_ ?_; focus (((try simp only [true_and, and_true, and_self, kmin, kmax, decide_eq_true_eq, decide_eq_false_iff_not, castD_self, castL_self, List.length_cons, List.length_nil, List.length_append, Int.natCast_add] at *) <;> omega))) | (with_reducible refine Step.mk ?_ ?_) | (with_reducible refine Way.t1 ?_) | (with_reducible refine Way.f1 ?_) | ((with_reducible refine Way.dec (fun zz => ?_) (fun zz => ?_)) <;> (try simp only [castD_self, castL_self] at zz) <;> try (exfalso; first | omega | contradiction)) | (with_reducible refine Way.nt ?_) | ((with_reducible refine Way.mk (fun _ => ?_) (fun _ => ?_)) <;> try (exfalso; rename_i hw; first | exact Bool.noConfusion ((Go.RowKit.Hid.out hv).symm.trans hw) | exact Bool.noConfusion (hw.symm.trans (Go.RowKit.Hid.out hv)))) | (with_reducible refine Drawn.mk (by kernel_rfl) ?_) | (refine Run.mk ?_)))
    all_goals refine Ret.mk ?_
    all_goals rw [eC, eT, eL]
    all_goals exact ⟨⟨rfl, .frz rfl, True.intro⟩, ⟨rfl, .frz rfl, True.intro⟩, ⟨rfl, .same, .same, True.intro⟩, True.intro⟩
end Go.Proofs.YtppmhjaooiameaaDoor
