/- The walks of lines.Occurs, textpatch.Raw, textpatch.Apply. -/
import Derived.Test.YtppmhjaooiameaaDoorWxEqPat
import Derived.Test.YtppmhjaooiameaaDoorWxSlEq
import Derived.Test.YtppmhjaooiameaaDoorWxInv
namespace Go.Proofs.YtppmhjaooiameaaDoor
open Go.RowKit
set_option maxRecDepth 10000
set_option linter.unusedSimpArgs false

def sp_Occurs : SpecF := pureSp true [.slice .str, .slice .str, .int .i64] (fun _ => True) (fun (t', o', a', _) => .v false [.d .bool (occ t' o' a')])
theorem Occurs_sp : SpFact 36 sp_Occurs := by
  refine ⟨⟨Tryd.f36, rfl, rfl, rfl, pureSp_ok (env_fine (sp := [(51, sp_Equal)]) (eq := []) ⟨Equal_sp, True.intro⟩ True.intro) rfl (fun ⟨_, _, _, _⟩ _ => rfl) ?_⟩, pureSp_loc _ _ _ _⟩
  rintro ⟨t, o, a, u⟩ ⟨⟨ht, -⟩, ⟨ho, -⟩, -⟩ -
  rw [maxLen_eq] at ht ho
  dsimp only at ht ho
  change List ByteArray at t o
  change Int at a
  (refine fnM_of rfl rfl rfl rfl ?_; dsimp only [params, argAV, Ty.leaves, Ty.isSt])
  (repeat' (first | (with_reducible refine Cend.go ?_) | (with_reducible refine Step.mk True.intro ?_) | (with_reducible refine Step.mk ?_ ?_; focus (((try simp only [true_and, and_true, and_self, kmin, kmax, decide_eq_true_eq, decide_eq_false_iff_not, castD_self, castL_self, List.length_cons, List.length_nil, List.length_append, Int.natCast_add] at *) <;> omega))) | (with_reducible refine Step.mk ?_ ?_) | (with_reducible refine Way.t1 ?_) | (with_reducible refine Way.f1 ?_) | ((with_reducible refine Way.dec (fun _ => ?_) (fun _ => ?_)) <;> try (exfalso; omega)) | (with_reducible refine Way.nt ?_) | (with_reducible refine Way.mk (fun _ => ?_) (fun _ => ?_)) | (with_reducible refine Drawn.mk (by kernel_rfl) ?_) | (refine Run.mk ?_)))
  · rename_i h1 h2 h3
    refine Ret.mk ?_
    show AV.v false [.d .bool (decide ((t.take (a + o.length).toNat).drop a.toNat = o))] = _
    rw [show occ t o a = decide ((t.take (a + o.length).toNat).drop a.toNat = o) from by unfold occ; rw [decide_eq_true h1, decide_eq_true h2, decide_eq_true h3]; rfl]
  · rename_i h1 h2 h3
    refine Ret.mk ?_
    show AV.v false [.d .bool false] = _
    rw [show occ t o a = false from by unfold occ; rw [decide_eq_false h3]; simp]
  · rename_i h1 h2
    refine Ret.mk ?_
    show AV.v false [.d .bool false] = _
    rw [show occ t o a = false from by unfold occ; rw [decide_eq_false h2]; simp]
  · rename_i h1
    refine Ret.mk ?_
    show AV.v false [.d .bool false] = _
    rw [show occ t o a = false from by unfold occ; rw [decide_eq_false h1]; simp]

def sp_Raw : SpecF := ownSp true [.slice tHk, .slice .str, .int .i64, .int .i64] 9 .str (fun (p', t', l', h', _) => rawOk t' h' l' p' ∧ t'.length ≤ 120 ∧ p'.length ≤ 130) (fun x => raw x.2.1 x.2.2.2.1 x.2.2.1 x.1)
theorem Raw_sp : SpFact 29 sp_Raw := by
  refine ⟨⟨Tryd.f29, rfl, rfl, rfl, ownSp_ok (env1_fine (sp := []) (eq := []) (inl := [(17, Tryd.f17)]) (cl := []) True.intro True.intro ⟨⟨rfl, rfl, rfl⟩, True.intro⟩) rfl (fun _ => rfl) ?_⟩, ownSp_loc _ _ _ _ _ _⟩
  rintro ⟨p, t, low, high, u⟩ - ⟨hok, ht, hp⟩
  change List Hk at p
  change List ByteArray at t
  change Int at low high
  replace hok : rawOk t high low p := hok
  replace ht : t.length ≤ 120 := ht
  replace hp : p.length ≤ 130 := hp
  replace hok := Lib.hid hok
  (refine fnM_of rfl rfl rfl rfl ?_; dsimp only [params, argAV, Ty.leaves, Ty.isSt])
  (repeat' (first | (with_reducible refine Cend.go ?_) | (with_reducible refine Step.mk True.intro ?_) | (with_reducible refine Step.mk ?_ ?_; focus (((try simp only [true_and, and_true, and_self, kmin, kmax, decide_eq_true_eq, decide_eq_false_iff_not, castD_self, castL_self, List.length_cons, List.length_nil, List.length_append, Int.natCast_add] at *) <;> omega))) | (with_reducible refine Step.mk ?_ ?_) | (with_reducible refine Way.t1 ?_) | (with_reducible refine Way.f1 ?_) | ((with_reducible refine Way.dec (fun _ => ?_) (fun _ => ?_)) <;> try (exfalso; omega)) | (with_reducible refine Way.nt ?_) | (with_reducible refine Way.mk (fun _ => ?_) (fun _ => ?_)) | (with_reducible refine Drawn.mk (by kernel_rfl) ?_) | (refine Run.mk ?_)))
  refine loop_by (X := Nat × Int × List ByteArray) (fun x => [.put 1 (.v false [.d (.slice .str) t]), .put 2 (.v false [.d (.int .i64) x.2.1]), .put 3 (.v false [.d (.int .i64) high]), .put 9 (.v false [.o 91]), .put 12 (.v false [.d (.slice tHk) p]), .put 13 (.v false [.d (.int .i64) (p.length : Int)]), .put 14 (.v false [.d (.int .i64) (x.1 : Int)])])
    (fun x => [.put 91 (.row 9 .str x.2.2)]) (fun x => x.1 ≤ p.length ∧ rawOk t high x.2.1 (p.drop x.1) ∧ raw t high low p = x.2.2 ++ raw t high x.2.1 (p.drop x.1) ∧ x.2.2.length ≤ 240 * x.1) (fun x => p.length - x.1) (0, low, []) ⟨Nat.zero_le _, hok.out, rfl, Nat.le_refl _⟩ ?_ ?_
  · refine (Wk.nilrow 9 91 9 .str rfl).trans ?_
    (refine Wk.keep ?_ ?_ <;> repeat' (first | exact True.intro | refine And.intro rfl ?_ | refine And.intro (congrArg (fun z : Int => AV.v false [Lf.d (.int .i64) z]) (by first | omega | (simp only [Int.natCast_add, List.length_cons, List.length_append, List.length_nil]; omega))) ?_ | refine And.intro ?_ ?_))
  rintro ⟨k, lo, M⟩ ⟨hk, ho, hr, hm⟩
  dsimp only at hk ho hr hm ⊢
  by_cases hlt : k < p.length
  · have hg := getD_at (a := p) tHk.dflt hlt
    rw [raw_step hlt] at hr
    have ho := rawOk_step hlt ho
    rw [← hg] at ho hr
    obtain ⟨o1, o2, o3, o4, o5, o6⟩ := ho
    have hl1 : ((t.take (p.getD ((k : Int)).toNat tHk.dflt).1.toNat).drop lo.toNat).length ≤ 120 := by rw [List.length_drop, List.length_take]; omega
    replace o6 := Lib.hid o6
    replace hr := Lib.hid hr
    replace hg := Lib.hid hg
    (repeat' (first | (with_reducible refine Cend.go ?_) | (with_reducible refine Step.mk True.intro ?_) | (with_reducible refine Step.mk ?_ ?_; focus (((try simp only [true_and, and_true, and_self, kmin, kmax, decide_eq_true_eq, decide_eq_false_iff_not, castD_self, castL_self, List.length_cons, List.length_nil, List.length_append, Int.natCast_add] at *) <;> omega))) | (with_reducible refine Step.mk ?_ ?_) | (with_reducible refine Way.t1 ?_) | (with_reducible refine Way.f1 ?_) | ((with_reducible refine Way.dec (fun _ => ?_) (fun _ => ?_)) <;> try (exfalso; omega)) | (with_reducible refine Way.nt ?_) | (with_reducible refine Way.mk (fun _ => ?_) (fun _ => ?_)) | (with_reducible refine Drawn.mk (by kernel_rfl) ?_) | (refine Run.mk ?_)))
    (apply Back.by ((k + 1, hkEnd (p.getD ((k : Int)).toNat tHk.dflt), _)); focus (refine Wk.ren [(91, 27)] rfl ?_ ?_ <;> repeat' (first | exact True.intro | refine And.intro rfl ?_ | refine And.intro (congrArg (fun z : Int => AV.v false [Lf.d (.int .i64) z]) (by first | omega | (simp only [Int.natCast_add, List.length_cons, List.length_append, List.length_nil]; omega))) ?_ | refine And.intro ?_ ?_)))
    · refine ⟨hlt, ?_, ?_, ?_⟩
      · exact hg.out ▸ o6.out
      · have hr' := hr.out
        rw [hg.out] at hr'
        show _ = (M ++ (t.take (p.getD ((k : Int)).toNat tHk.dflt).1.toNat).drop lo.toNat) ++ (p.getD ((k : Int)).toNat tHk.dflt).2.2 ++ raw t high (hkEnd (p.getD ((k : Int)).toNat tHk.dflt)) (p.drop (k + 1))
        rw [hg.out, hr']
        simp only [List.append_assoc]
      · show ((M ++ (t.take (p.getD ((k : Int)).toNat tHk.dflt).1.toNat).drop lo.toNat) ++ (p.getD ((k : Int)).toNat tHk.dflt).2.2).length ≤ 240 * (k + 1)
        rw [List.length_append, List.length_append]
        omega
    · show p.length - (k + 1) < p.length - k; omega
  · rw [List.drop_eq_nil_of_le (by omega)] at ho hr
    have ho : 0 ≤ lo ∧ lo ≤ high ∧ high ≤ t.length := ho
    obtain ⟨o1, o2, o3⟩ := ho
    have hl1 : ((t.take high.toNat).drop lo.toNat).length ≤ 120 := by rw [List.length_drop, List.length_take]; omega
    replace hr := Lib.hid hr
    (repeat' (first | (with_reducible refine Cend.go ?_) | (with_reducible refine Step.mk True.intro ?_) | (with_reducible refine Step.mk ?_ ?_; focus (((try simp only [true_and, and_true, and_self, kmin, kmax, decide_eq_true_eq, decide_eq_false_iff_not, castD_self, castL_self, List.length_cons, List.length_nil, List.length_append, Int.natCast_add] at *) <;> omega))) | (with_reducible refine Step.mk ?_ ?_) | (with_reducible refine Way.t1 ?_) | (with_reducible refine Way.f1 ?_) | ((with_reducible refine Way.dec (fun _ => ?_) (fun _ => ?_)) <;> try (exfalso; omega)) | (with_reducible refine Way.nt ?_) | (with_reducible refine Way.mk (fun _ => ?_) (fun _ => ?_)) | (with_reducible refine Drawn.mk (by kernel_rfl) ?_) | (refine Run.mk ?_)))
    refine Ret.mk (.inl ⟨36, rfl, ?_⟩)
    rw [hr.out]
    rfl

def sp_Apply : SpecF := pureSp false [tPat, .slice .str] (fun _ => True) (fun (p', t', _) => .tu [(false, [.d (.slice .str) (apL p' t')]), (true, [.d (.int .i64) (apF p' t').1, .d (.int .i64) (apF p' t').2])])
theorem Apply_sp : SpFact 14 sp_Apply := by
  refine ⟨⟨Tryd.f14, rfl, rfl, rfl, pureSp_okF (env_fine (sp := [(25, sp_PValidate), (26, sp_Second), (36, sp_Occurs), (29, sp_Raw)]) (eq := [(27, true)])
    ⟨PValidate_sp, Second_sp, Occurs_sp, Raw_sp, True.intro⟩ ⟨eq_fault, True.intro⟩) rfl (fun ⟨_, _, _⟩ _ => rfl) ?_⟩, pureSp_loc _ _ _ _⟩
  rintro ⟨p, t, u⟩ - -
  change List Hk at p
  change List ByteArray at t
  by_cases hp : pC p = 0
  · have hv : (decide (pC p = 0) && decide (pI p = 0)) = true := by rw [hp, pI_good p hp]; rfl
    by_cases ht : vC t = 0
    · have hv2 : (decide (vC t = 0) && decide ((if vC t = 0 then (0 : Int) else -2) = 0)) = true := by rw [ht]; rfl
      obtain ⟨hlen, hok⟩ := pC_ok hp
      have htl := vC_len t ht
      replace hok := Lib.hid hok
      replace hv := Lib.hid hv
      replace hv2 := Lib.hid hv2
      replace hp := Lib.hid hp
      replace ht := Lib.hid ht
      (refine fnM_of rfl rfl rfl rfl ?_; dsimp only [params, argAV, Ty.leaves, Ty.isSt])
      (repeat' (first | (with_reducible refine Cend.go ?_) | (with_reducible refine Step.mk True.intro ?_) | (with_reducible refine Step.mk ?_ ?_; focus (((try simp only [true_and, and_true, and_self, kmin, kmax, decide_eq_true_eq, decide_eq_false_iff_not, castD_self, castL_self, List.length_cons, List.length_nil, List.length_append, Int.natCast_add] at *) <;> omega))) | (with_reducible refine Step.mk ?_ ?_) | (with_reducible refine Way.t1 ?_) | (with_reducible refine Way.f1 ?_) | ((with_reducible refine Way.dec (fun _ => ?_) (fun _ => ?_)) <;> try (exfalso; omega)) | (with_reducible refine Way.nt ?_) | ((with_reducible refine Way.mk (fun _ => ?_) (fun _ => ?_)) <;> try (exfalso; rename_i hw; first | exact Bool.noConfusion ((Go.RowKit.Hid.out hv).symm.trans hw) | exact Bool.noConfusion (hw.symm.trans (Go.RowKit.Hid.out hv)))) | (with_reducible refine Drawn.mk (by kernel_rfl) ?_) | (refine Run.mk ?_)))
      · refine loop_by (X := Nat) (fun k => [.put 1 (.v false [.d (.slice .str) t]), .put 2 (.v false [.p 2 0]), .put 4 (.v false [.nl]), .put 5 (.v false [.p 5 0]), .put 24 (.v false [.d (.slice tHk) p]), .put 25 (.v false [.d (.int .i64) (p.length : Int)]), .put 26 (.v false [.d (.int .i64) (k : Int)])])
          (fun _ => [.put 2 (.box 25 [.d (.slice tHk) p]), .put 5 (.box 27 [.d (.int .i64) 0, .d (.int .i64) 0])]) (fun k => k ≤ p.length ∧ missI t 0 p = missI t k (p.drop k)) (fun k => p.length - k) 0 ⟨Nat.zero_le _, rfl⟩ ?_ ?_
        · (refine Wk.keep ?_ ?_ <;> repeat' (first | exact True.intro | refine And.intro rfl ?_ | refine And.intro (congrArg (fun z : Int => AV.v false [Lf.d (.int .i64) z]) (by first | omega | (simp only [Int.natCast_add, List.length_cons, List.length_append, List.length_nil]; omega))) ?_ | refine And.intro ?_ ?_))
        rintro k ⟨hk, hm⟩
        dsimp only at hk hm ⊢
        by_cases hlt : k < p.length
        · have hg := getD_at (a := p) tHk.dflt hlt
          rw [missI_step hlt, ← hg] at hm
          replace hg := Lib.hid hg
          replace hm := Lib.hid hm
          (repeat' (first | (with_reducible refine Cend.go ?_) | (with_reducible refine Step.mk True.intro ?_) | (with_reducible refine Step.mk ?_ ?_; focus (((try simp only [true_and, and_true, and_self, kmin, kmax, decide_eq_true_eq, decide_eq_false_iff_not, castD_self, castL_self, List.length_cons, List.length_nil, List.length_append, Int.natCast_add] at *) <;> omega))) | (with_reducible refine Step.mk ?_ ?_) | (with_reducible refine Way.t1 ?_) | (with_reducible refine Way.f1 ?_) | ((with_reducible refine Way.dec (fun _ => ?_) (fun _ => ?_)) <;> try (exfalso; omega)) | (with_reducible refine Way.nt ?_) | (with_reducible refine Way.mk (fun _ => ?_) (fun _ => ?_)) | (with_reducible refine Drawn.mk (by kernel_rfl) ?_) | (refine Run.mk ?_)))
          · rename_i h
            have h : occ t (p.getD ((k : Int)).toNat tHk.dflt).2.1 (p.getD ((k : Int)).toNat tHk.dflt).1 = true := h
            (refine Back.by (k + 1) ?_ ?_ ?_; focus (refine Wk.keep ?_ ?_ <;> repeat' (first | exact True.intro | refine And.intro rfl ?_ | refine And.intro (congrArg (fun z : Int => AV.v false [Lf.d (.int .i64) z]) (by first | omega | (simp only [Int.natCast_add, List.length_cons, List.length_append, List.length_nil]; omega))) ?_ | refine And.intro ?_ ?_)))
            · exact ⟨hlt, hm.out.trans (if_pos h)⟩
            · show p.length - (k + 1) < p.length - k; omega
          · rename_i h
            have h : occ t (p.getD ((k : Int)).toNat tHk.dflt).2.1 (p.getD ((k : Int)).toNat tHk.dflt).1 = false := h
            have hm' : missI t 0 p = some k := hm.out.trans (if_neg (by rw [h]; decide))
            refine Ret.mk ?_
            have e1 : apF p t = (19, (k : Int)) := by unfold apF; rw [if_neg (by rw [hp.out]; decide), if_neg (by rw [ht.out]; decide), hm']
            rw [show apL p t = [] from if_neg (by rw [e1]; show ¬ (19 : Int) = 0; decide), e1]
            exact ⟨⟨rfl, .frz rfl, True.intro⟩, ⟨rfl, .same, .same, True.intro⟩, True.intro⟩
        · have hm : missI t 0 p = none := by rw [hm, List.drop_eq_nil_of_le (by omega)]; rfl
          have hraw : rawOk t t.length 0 p := by
            have hp' := hp.out
            unfold pC at hp'
            rw [if_neg (by omega)] at hp'
            exact rawOk_of htl p (-1) 0 hp' (Int.le_refl _) (.inl (by decide)) (by omega) (missI_none p 0 hm)
          have hrl := raw_len (high := (t.length : Int)) htl p 0 fun x hx => (hok.out x hx).2.2.2
          replace hm := Lib.hid hm
          replace hraw := Lib.hid hraw
          (repeat' (first | (with_reducible refine Cend.go ?_) | (with_reducible refine Step.mk True.intro ?_) | (with_reducible refine Step.mk ?_ ?_; focus (((try simp only [true_and, and_true, and_self, kmin, kmax, decide_eq_true_eq, decide_eq_false_iff_not, castD_self, castL_self, List.length_cons, List.length_nil, List.length_append, Int.natCast_add] at *) <;> omega))) | (with_reducible refine Step.mk ?_ ?_) | (with_reducible refine Way.t1 ?_) | (with_reducible refine Way.f1 ?_) | ((with_reducible refine Way.dec (fun _ => ?_) (fun _ => ?_)) <;> try (exfalso; omega)) | (with_reducible refine Way.nt ?_) | (with_reducible refine Way.mk (fun _ => ?_) (fun _ => ?_)) | (with_reducible refine Drawn.mk (by kernel_rfl) ?_) | (refine Run.mk ?_)))
          · exact ⟨hraw.out, htl, hlen⟩
          · rename_i h
            have h : 120 < ((raw t t.length 0 p).length : Int) := h
            have h : 120 < (raw t t.length 0 p).length := by omega
            refine Ret.mk ?_
            have e1 : apF p t = (10, -1) := by unfold apF; rw [if_neg (by rw [hp.out]; decide), if_neg (by rw [ht.out]; decide), hm.out]; exact if_pos h
            rw [show apL p t = [] from if_neg (by rw [e1]; decide), e1]
            exact ⟨⟨rfl, .frz rfl, True.intro⟩, ⟨rfl, .same, .same, True.intro⟩, True.intro⟩
          · rename_i h
            have h : ¬ 120 < ((raw t t.length 0 p).length : Int) := h
            have h : ¬ 120 < (raw t t.length 0 p).length := by omega
            refine Ret.mk ?_
            have e1 : apF p t = (0, 0) := by unfold apF; rw [if_neg (by rw [hp.out]; decide), if_neg (by rw [ht.out]; decide), hm.out]; exact if_neg h
            rw [show apL p t = raw t t.length 0 p from if_pos (by rw [e1]), e1]
            exact ⟨⟨rfl, .frz rfl, True.intro⟩, ⟨rfl, .same, .same, True.intro⟩, True.intro⟩
      · rename_i h
        exact Bool.noConfusion (hv2.out.symm.trans h)
    · have hv2 : (decide (vC t = 0) && decide ((if vC t = 0 then (0 : Int) else -2) = 0)) = false := by rw [decide_eq_false ht]; rfl
      replace hv := Lib.hid hv
      replace hv2 := Lib.hid hv2
      (refine fnM_of rfl rfl rfl rfl ?_; dsimp only [params, argAV, Ty.leaves, Ty.isSt])
      (repeat' (first | (with_reducible refine Cend.go ?_) | (with_reducible refine Step.mk True.intro ?_) | (with_reducible refine Step.mk ?_ ?_; focus (((try simp only [true_and, and_true, and_self, kmin, kmax, decide_eq_true_eq, decide_eq_false_iff_not, castD_self, castL_self, List.length_cons, List.length_nil, List.length_append, Int.natCast_add] at *) <;> omega))) | (with_reducible refine Step.mk ?_ ?_) | (with_reducible refine Way.t1 ?_) | (with_reducible refine Way.f1 ?_) | ((with_reducible refine Way.dec (fun _ => ?_) (fun _ => ?_)) <;> try (exfalso; omega)) | (with_reducible refine Way.nt ?_) | ((with_reducible refine Way.mk (fun _ => ?_) (fun _ => ?_)) <;> try (exfalso; rename_i hw; first | exact Bool.noConfusion ((Go.RowKit.Hid.out hv).symm.trans hw) | exact Bool.noConfusion (hw.symm.trans (Go.RowKit.Hid.out hv)))) | (with_reducible refine Drawn.mk (by kernel_rfl) ?_) | (refine Run.mk ?_)))
      · rename_i h
        exact Bool.noConfusion (hv2.out.symm.trans h)
      · rename_i h
        exact Bool.noConfusion (hv2.out.symm.trans h)
      · refine Ret.mk ?_
        have e1 : apF p t = (vC t, -2) := by unfold apF; rw [if_neg (by rw [hp]; decide), if_pos ht]
        rw [show apL p t = [] from if_neg (by rw [e1]; exact ht), e1]
        refine ⟨⟨rfl, .frz rfl, True.intro⟩, ⟨rfl, .same, .inl ?_, True.intro⟩, True.intro⟩
        show Lf.d (Ty.int .i64) (if vC t = 0 then (0 : Int) else -2) = _
        rw [if_neg ht]
  · have hv : (decide (pC p = 0) && decide (pI p = 0)) = false := by rw [decide_eq_false hp]; rfl
    replace hv := Lib.hid hv
    (refine fnM_of rfl rfl rfl rfl ?_; dsimp only [params, argAV, Ty.leaves, Ty.isSt])
    (repeat' (first | (with_reducible refine Cend.go ?_) | (with_reducible refine Step.mk True.intro ?_) | (with_reducible refine Step.mk ?_ ?_; focus (((try simp only [true_and, and_true, and_self, kmin, kmax, decide_eq_true_eq, decide_eq_false_iff_not, castD_self, castL_self, List.length_cons, List.length_nil, List.length_append, Int.natCast_add] at *) <;> omega))) | (with_reducible refine Step.mk ?_ ?_) | (with_reducible refine Way.t1 ?_) | (with_reducible refine Way.f1 ?_) | ((with_reducible refine Way.dec (fun _ => ?_) (fun _ => ?_)) <;> try (exfalso; omega)) | (with_reducible refine Way.nt ?_) | ((with_reducible refine Way.mk (fun _ => ?_) (fun _ => ?_)) <;> try (exfalso; rename_i hw; first | exact Bool.noConfusion ((Go.RowKit.Hid.out hv).symm.trans hw) | exact Bool.noConfusion (hw.symm.trans (Go.RowKit.Hid.out hv)))) | (with_reducible refine Drawn.mk (by kernel_rfl) ?_) | (refine Run.mk ?_)))
    refine Ret.mk ?_
    have e1 : apF p t = (pC p, pI p) := if_pos hp
    rw [show apL p t = [] from if_neg (by rw [e1]; exact hp), e1]
    exact ⟨⟨rfl, .frz rfl, True.intro⟩, ⟨rfl, .same, .same, True.intro⟩, True.intro⟩
end Go.Proofs.YtppmhjaooiameaaDoor
