/- The walk of textpatch.Compose. -/
import Derived.Test.YthacjpemeaekdaaWxWalk
import Derived.Test.YthacjpemeaekdaaComBd
namespace Go.Proofs.Ythacjpemeaekdaa
open Go.RowKit
set_option maxRecDepth 10000
set_option maxHeartbeats 4000000
set_option linter.unusedSimpArgs false

def sp_Compose : SpecF := pureSp false [tPat, tPat] (fun _ => True) (fun (p', q', _) => .tu [(true, [.d (.slice tHk) (coP p' q')]), (true, [.d (.int .i64) (coC p' q'), .d (.int .i64) (coI p' q')])])
theorem Compose_sp : SpFact 23 sp_Compose := by
  refine ⟨⟨Try.f23, rfl, rfl, rfl, pureSp_okF (env_fine (sp := [(28, sp_PValidate), (43, sp_PSecond), (44, sp_midway), (46, sp_walk), (45, sp_Made)]) (eq := [(24, true)])
    ⟨PValidate_sp, PSecond_sp, midway_sp, walk_sp, Made_sp, True.intro⟩ ⟨eq_fault, True.intro⟩) rfl (fun ⟨_, _, _⟩ _ => rfl) ?_⟩, pureSp_loc _ _ _ _⟩
  rintro ⟨p, q, u⟩ - -
  change List Hk at p q
  dsimp only
  by_cases hp : pC p = 0
  · by_cases hq : pC q = 0
    · obtain ⟨b1, b2, b3, b4, b5, b6⟩ := co_bd hp hq
      have okp := pC_ok hp
      have hv1 : (decide (pC p = 0) && decide (pI p = 0)) = true := by rw [hp, pI_good p hp]; rfl
      have hv2 : (decide (pC q = 0) && decide ((if pC q = 0 then 0 else (-2 : Int)) = 0)) = true := by rw [hq]; rfl
      have eM : (midF 0 p ([], [])).1 = coM p := midF_eq p 0 ([], [])
      have eC : coC p q = match confI 0 (coM p) q with | some _ => 19 | none => if pC (coR p q) ≠ 0 then 10 else 0 := by
        unfold coC; rw [if_neg (by simp [hp]), if_neg (by simp [hq])]; cases confI 0 (coM p) q <;> rfl
      have eI : coI p q = match confI 0 (coM p) q with | some i => -3 - (i : Int) | none => if pC (coR p q) ≠ 0 then -1 else 0 := by
        unfold coI; rw [if_neg (by simp [hp]), if_neg (by simp [hq])]; cases confI 0 (coM p) q <;> rfl
      have eR : coR p q = col 0 none (evs 0 (coM p) q) := rfl
      rw [← eM] at b1 b2 b6 eC eI eR
      have hok := okp.2
      have hlen := okp.1
      have hpre : 121 ≤ (midF 0 p ([], [])).1.length ∧ (midF 0 p ([], [])).1.length ≤ 1000000 ∧ (∀ h ∈ q, HkOk h ∧ hkEnd h ≤ 120) ∧ q.length ≤ 130 ∧ ch (-1) q ∧ (evs 0 (midF 0 p ([], [])).1 q).length ≤ 1000000 := ⟨by omega, b2, b3, b4, b5, b6⟩
      replace hv1 := Lib.hid hv1
      replace hv2 := Lib.hid hv2
      replace hp := Lib.hid hp
      replace hq := Lib.hid hq
      replace eM := Lib.hid eM
      replace eC := Lib.hid eC
      replace eI := Lib.hid eI
      replace eR := Lib.hid eR
      replace hok := Lib.hid hok
      replace b3 := Lib.hid b3
      replace hpre := Lib.hid hpre
      clear b5 okp
      (refine fnM_of rfl rfl rfl rfl ?_; dsimp only [params, argAV, Ty.leaves, Ty.isSt])
      (repeat' (first | (with_reducible refine Cend.go ?_) | (with_reducible refine Step.mk True.intro ?_) | (with_reducible refine Step.mk ?_ ?_; focus (((try simp only [true_and, and_true, and_self, kmin, kmax, decide_eq_true_eq, decide_eq_false_iff_not, castD_self, castL_self, List.length_cons, List.length_nil, List.length_append, Int.natCast_add] at *) <;> omega))) | (with_reducible refine Step.mk ?_ ?_) | (with_reducible refine Way.t1 ?_) | (with_reducible refine Way.f1 ?_) | ((with_reducible refine Way.dec (fun _ => ?_) (fun _ => ?_)) <;> try (exfalso; omega)) | (with_reducible refine Way.nt ?_) | ((with_reducible refine Way.mk (fun _ => ?_) (fun _ => ?_)) <;> try (exfalso; rename_i hw; first | exact Bool.noConfusion ((Go.RowKit.Hid.out hv1).symm.trans hw) | exact Bool.noConfusion (hw.symm.trans (Go.RowKit.Hid.out hv1)))) | (with_reducible refine Drawn.mk (by kernel_rfl) ?_) | (refine Run.mk ?_)))
      · exact ⟨hok.out, hlen⟩
      · refine loop_by (X := Nat) (fun x => [.put 2 (.v false [.p 2 0]), .put 3 (.v false [.p 3 0]), .put 4 (.v false [.p 4 0]), .put 5 (.v false [.p 5 0]), .put 8 (.v false [.d (.slice tMid) (midF 0 p ([], [])).1]), .put 31 (.v false [.d (.slice tHk) q]), .put 32 (.v false [.d (.int .i64) (q.length : Int)]), .put 33 (.v false [.d (.int .i64) (x : Int)])]) (fun _ => [.put 2 (.box 41 [.d (.slice tHk) p]), .put 3 (.box 41 [.d (.slice tHk) q]), .put 4 (.box 41 [.nl]), .put 5 (.box 24 [.d (.int .i64) 0, .d (.int .i64) 0])])
          (fun x => x ≤ q.length ∧ confI 0 (midF 0 p ([], [])).1 q = confI x (midF 0 p ([], [])).1 (q.drop x)) (fun x => q.length - x) 0 ⟨Nat.zero_le _, rfl⟩ (by (refine Wk.keep ?_ ?_ <;> repeat' (first | exact True.intro | refine And.intro rfl ?_ | refine And.intro (congrArg (fun z : Int => AV.v false [Lf.d (.int .i64) z]) (by first | omega | (simp only [Int.natCast_add, List.length_cons, List.length_append, List.length_nil]; omega))) ?_ | refine And.intro ?_ ?_))) ?_
        rintro k ⟨hk, hc⟩
        dsimp only at hk hc ⊢
        by_cases hlt : k < q.length
        · have hg := getD_at (a := q) tHk.dflt hlt
          have ho := b3.out q[k] (List.getElem_mem hlt)
          rw [confI_step hlt, ← hg] at hc
          rw [← hg] at ho
          obtain ⟨⟨o1, o2, o3, o4⟩, o5⟩ := ho
          unfold hkEnd at o5
          replace hg := Lib.hid hg
          replace hc := Lib.hid hc
          (repeat' (first | (with_reducible refine Cend.go ?_) | (with_reducible refine Step.mk True.intro ?_) | (with_reducible refine Step.mk ?_ ?_; focus (((try simp only [true_and, and_true, and_self, kmin, kmax, decide_eq_true_eq, decide_eq_false_iff_not, castD_self, castL_self, List.length_cons, List.length_nil, List.length_append, Int.natCast_add] at *) <;> omega))) | (with_reducible refine Step.mk ?_ ?_) | (with_reducible refine Way.t1 ?_) | (with_reducible refine Way.f1 ?_) | ((with_reducible refine Way.dec (fun _ => ?_) (fun _ => ?_)) <;> try (exfalso; omega)) | (with_reducible refine Way.nt ?_) | (with_reducible refine Way.mk (fun _ => ?_) (fun _ => ?_)) | (with_reducible refine Drawn.mk (by kernel_rfl) ?_) | (refine Run.mk ?_)))
          refine loop_by (X := Nat) (fun x => [.put 2 (.v false [.p 2 0]), .put 3 (.v false [.p 3 0]), .put 4 (.v false [.p 4 0]), .put 5 (.v false [.p 5 0]), .put 8 (.v false [.d (.slice tMid) (midF 0 p ([], [])).1]), .put 31 (.v false [.d (.slice tHk) q]), .put 32 (.v false [.d (.int .i64) (q.length : Int)]), .put 33 (.v false [.d (.int .i64) (k : Int)]), .put 9 (.v false [.d (.int .i64) (k : Int)]), .put 10 (.v false [.p 10 0]), .put 39 (.v false [.d (.slice .str) (q.getD ((k : Int)).toNat tHk.dflt).2.1]), .put 40 (.v false [.d (.int .i64) ((q.getD ((k : Int)).toNat tHk.dflt).2.1.length : Int)]), .put 41 (.v false [.d (.int .i64) (x : Int)])])
            (fun _ => [.put 2 (.box 41 [.d (.slice tHk) p]), .put 3 (.box 41 [.d (.slice tHk) q]), .put 4 (.box 41 [.nl]), .put 5 (.box 24 [.d (.int .i64) 0, .d (.int .i64) 0]), .put 10 (.box 76 (tHk.leaves (q.getD ((k : Int)).toNat tHk.dflt)))])
            (fun x => x ≤ (q.getD ((k : Int)).toNat tHk.dflt).2.1.length ∧ bad ((midF 0 p ([], [])).1.drop (q.getD ((k : Int)).toNat tHk.dflt).1.toNat) (q.getD ((k : Int)).toNat tHk.dflt).2.1 = bad ((midF 0 p ([], [])).1.drop ((q.getD ((k : Int)).toNat tHk.dflt).1.toNat + x)) ((q.getD ((k : Int)).toNat tHk.dflt).2.1.drop x)) (fun x => (q.getD ((k : Int)).toNat tHk.dflt).2.1.length - x) 0 ⟨Nat.zero_le _, rfl⟩ (by (refine Wk.keep ?_ ?_ <;> repeat' (first | exact True.intro | refine And.intro rfl ?_ | refine And.intro (congrArg (fun z : Int => AV.v false [Lf.d (.int .i64) z]) (by first | omega | (simp only [Int.natCast_add, List.length_cons, List.length_append, List.length_nil]; omega))) ?_ | refine And.intro ?_ ?_))) ?_
          rintro j ⟨hj, hb⟩
          by_cases hjl : j < (q.getD ((k : Int)).toNat tHk.dflt).2.1.length
          · have hbM : (q.getD ((k : Int)).toNat tHk.dflt).1.toNat + j < (midF 0 p ([], [])).1.length := by omega
            have gm : (midF 0 p ([], [])).1.getD ((q.getD ((k : Int)).toNat tHk.dflt).1 + (j : Int)).toNat tMid.dflt = (midF 0 p ([], [])).1[(q.getD ((k : Int)).toNat tHk.dflt).1.toNat + j] := by
              rw [← getD_at (a := (midF 0 p ([], [])).1) tMid.dflt hbM]; congr 1; omega
            have go : (q.getD ((k : Int)).toNat tHk.dflt).2.1.getD ((j : Int)).toNat Ty.str.dflt = (q.getD ((k : Int)).toNat tHk.dflt).2.1[j] := gdS hjl
            rw [bad_step hjl hbM, ← gm, ← go] at hb
            replace gm := Lib.hid gm
            replace go := Lib.hid go
            replace hb := Lib.hid hb
            (repeat' (first | (with_reducible refine Cend.go ?_) | (with_reducible refine Step.mk True.intro ?_) | (with_reducible refine Step.mk ?_ ?_; focus (((try simp only [true_and, and_true, and_self, kmin, kmax, decide_eq_true_eq, decide_eq_false_iff_not, castD_self, castL_self, List.length_cons, List.length_nil, List.length_append, Int.natCast_add] at *) <;> omega))) | (with_reducible refine Step.mk ?_ ?_) | (with_reducible refine Way.t1 ?_) | (with_reducible refine Way.f1 ?_) | ((with_reducible refine Way.dec (fun _ => ?_) (fun _ => ?_)) <;> try (exfalso; omega)) | (with_reducible refine Way.nt ?_) | (with_reducible refine Way.mk (fun _ => ?_) (fun _ => ?_)) | (with_reducible refine Drawn.mk (by kernel_rfl) ?_) | (refine Run.mk ?_)))
            · rename_i e1 e2
              replace e1 : ((midF 0 p ([], [])).1.getD ((q.getD ((k : Int)).toNat tHk.dflt).1 + (j : Int)).toNat tMid.dflt).1 = true := e1
              have e3 : decide (((midF 0 p ([], [])).1.getD ((q.getD ((k : Int)).toNat tHk.dflt).1 + (j : Int)).toNat tMid.dflt).2.1 = ((q.getD ((k : Int)).toNat tHk.dflt).2.1.getD ((j : Int)).toNat Ty.str.dflt)) = true := decide_eq_true e2
              have h9 := hb.out
              rw [e1, e3] at h9
              (refine Back.by (j + 1) ?_ ?_ ?_; focus (refine Wk.keep ?_ ?_ <;> repeat' (first | exact True.intro | refine And.intro rfl ?_ | refine And.intro (congrArg (fun z : Int => AV.v false [Lf.d (.int .i64) z]) (by first | omega | (simp only [Int.natCast_add, List.length_cons, List.length_append, List.length_nil]; omega))) ?_ | refine And.intro ?_ ?_)))
              · exact ⟨hjl, h9⟩
              · show _ - (j + 1) < _ - j; omega
            · rename_i e1 e2
              replace e1 : ((midF 0 p ([], [])).1.getD ((q.getD ((k : Int)).toNat tHk.dflt).1 + (j : Int)).toNat tMid.dflt).1 = true := e1
              have e3 : decide (((midF 0 p ([], [])).1.getD ((q.getD ((k : Int)).toNat tHk.dflt).1 + (j : Int)).toNat tMid.dflt).2.1 = ((q.getD ((k : Int)).toNat tHk.dflt).2.1.getD ((j : Int)).toNat Ty.str.dflt)) = false := decide_eq_false e2
              have h9 := hb.out
              rw [e1, e3] at h9
              replace h9 : bad ((midF 0 p ([], [])).1.drop (q.getD ((k : Int)).toNat tHk.dflt).1.toNat) (q.getD ((k : Int)).toNat tHk.dflt).2.1 = true := h9
              have h8 := hc.out
              rw [if_pos h9] at h8
              have c1 : coC p q = 19 := by rw [eC.out, h8]
              have c2 : coI p q = -3 - (k : Int) := by rw [eI.out, h8]
              refine Ret.mk ?_
              rw [show coP p q = [] from if_neg (by rw [c1]; decide), c1, c2]
              exact ⟨⟨rfl, .frz rfl, True.intro⟩, ⟨rfl, .same, .same, True.intro⟩, True.intro⟩
            · rename_i e1
              replace e1 : ((midF 0 p ([], [])).1.getD ((q.getD ((k : Int)).toNat tHk.dflt).1 + (j : Int)).toNat tMid.dflt).1 = false := e1
              have h9 := hb.out
              rw [e1] at h9
              (refine Back.by (j + 1) ?_ ?_ ?_; focus (refine Wk.keep ?_ ?_ <;> repeat' (first | exact True.intro | refine And.intro rfl ?_ | refine And.intro (congrArg (fun z : Int => AV.v false [Lf.d (.int .i64) z]) (by first | omega | (simp only [Int.natCast_add, List.length_cons, List.length_append, List.length_nil]; omega))) ?_ | refine And.intro ?_ ?_)))
              · exact ⟨hjl, h9⟩
              · show _ - (j + 1) < _ - j; omega
          · rw [bad_end hjl] at hb
            have h8 := hc.out
            rw [if_neg (by rw [hb]; decide)] at h8
            replace h8 := Lib.hid h8
            (repeat' (first | (with_reducible refine Cend.go ?_) | (with_reducible refine Step.mk True.intro ?_) | (with_reducible refine Step.mk ?_ ?_; focus (((try simp only [true_and, and_true, and_self, kmin, kmax, decide_eq_true_eq, decide_eq_false_iff_not, castD_self, castL_self, List.length_cons, List.length_nil, List.length_append, Int.natCast_add] at *) <;> omega))) | (with_reducible refine Step.mk ?_ ?_) | (with_reducible refine Way.t1 ?_) | (with_reducible refine Way.f1 ?_) | ((with_reducible refine Way.dec (fun _ => ?_) (fun _ => ?_)) <;> try (exfalso; omega)) | (with_reducible refine Way.nt ?_) | (with_reducible refine Way.mk (fun _ => ?_) (fun _ => ?_)) | (with_reducible refine Drawn.mk (by kernel_rfl) ?_) | (refine Run.mk ?_)))
            (refine Back.by (k + 1) ?_ ?_ ?_; focus (refine Wk.keep ?_ ?_ <;> repeat' (first | exact True.intro | refine And.intro rfl ?_ | refine And.intro (congrArg (fun z : Int => AV.v false [Lf.d (.int .i64) z]) (by first | omega | (simp only [Int.natCast_add, List.length_cons, List.length_append, List.length_nil]; omega))) ?_ | refine And.intro ?_ ?_)))
            · exact ⟨hlt, h8.out⟩
            · show q.length - (k + 1) < q.length - k; omega
        · have h8 : confI 0 (midF 0 p ([], [])).1 q = none := by rw [hc, show q.drop k = [] from List.drop_eq_nil_of_le (by omega)]; rfl
          have c1 : coC p q = if pC (coR p q) ≠ 0 then 10 else 0 := by rw [eC.out, h8]
          have c2 : coI p q = if pC (coR p q) ≠ 0 then -1 else 0 := by rw [eI.out, h8]
          replace c1 := Lib.hid c1
          replace c2 := Lib.hid c2
          replace h8 := Lib.hid h8
          replace hc := Lib.hid hc
          (repeat' (first | (with_reducible refine Cend.go ?_) | (with_reducible refine Step.mk True.intro ?_) | (with_reducible refine Step.mk ?_ ?_; focus (((try simp only [true_and, and_true, and_self, kmin, kmax, decide_eq_true_eq, decide_eq_false_iff_not, castD_self, castL_self, List.length_cons, List.length_nil, List.length_append, Int.natCast_add] at *) <;> omega))) | (with_reducible refine Step.mk ?_ ?_) | (with_reducible refine Way.t1 ?_) | (with_reducible refine Way.f1 ?_) | ((with_reducible refine Way.dec (fun _ => ?_) (fun _ => ?_)) <;> try (exfalso; omega)) | (with_reducible refine Way.nt ?_) | (with_reducible refine Way.mk (fun _ => ?_) (fun _ => ?_)) | (with_reducible refine Drawn.mk (by kernel_rfl) ?_) | (refine Run.mk ?_)))
          · exact hpre.out
          · refine Ret.mk ?_
            have c3 : coP p q = if pC (coR p q) = 0 then coR p q else [] := by
              by_cases hg : pC (coR p q) = 0
              · rw [if_pos hg]; exact if_pos (by rw [c1.out, if_neg (by simp [hg])])
              · rw [if_neg hg]; exact if_neg (by rw [c1.out, if_pos hg]; decide)
            have c4 : coC p q = if pC (coR p q) = 0 then 0 else 10 := by rw [c1.out]; by_cases hg : pC (coR p q) = 0 <;> simp [hg]
            have c5 : coI p q = if pC (coR p q) = 0 then 0 else -1 := by rw [c2.out]; by_cases hg : pC (coR p q) = 0 <;> simp [hg]
            rw [c3, c4, c5, eR.out]
            exact ⟨⟨rfl, .same, True.intro⟩, ⟨rfl, .same, .same, True.intro⟩, True.intro⟩
      · exfalso
        rename_i e1 e2
        exact Bool.noConfusion (hv2.out.symm.trans e2)
    · have hv1 : (decide (pC p = 0) && decide (pI p = 0)) = true := by rw [hp, pI_good p hp]; rfl
      have hv2 : (decide (pC q = 0) && decide ((if pC q = 0 then 0 else (-2 : Int)) = 0)) = false := by rw [decide_eq_false hq]; rfl
      have c1 : coC p q = pC q := by unfold coC; rw [if_neg (by simp [hp]), if_pos hq]
      have c2 : coI p q = if pC q = 0 then 0 else -2 := by unfold coI; rw [if_neg (by simp [hp]), if_pos hq, if_neg hq]
      rw [show coP p q = [] from if_neg (by rw [c1]; exact hq), c1, c2]
      replace hv1 := Lib.hid hv1
      replace hv2 := Lib.hid hv2
      replace hp := Lib.hid hp
      clear c1 c2
      (refine fnM_of rfl rfl rfl rfl ?_; dsimp only [params, argAV, Ty.leaves, Ty.isSt])
      (repeat' (first | (with_reducible refine Cend.go ?_) | (with_reducible refine Step.mk True.intro ?_) | (with_reducible refine Step.mk ?_ ?_; focus (((try simp only [true_and, and_true, and_self, kmin, kmax, decide_eq_true_eq, decide_eq_false_iff_not, castD_self, castL_self, List.length_cons, List.length_nil, List.length_append, Int.natCast_add] at *) <;> omega))) | (with_reducible refine Step.mk ?_ ?_) | (with_reducible refine Way.t1 ?_) | (with_reducible refine Way.f1 ?_) | ((with_reducible refine Way.dec (fun _ => ?_) (fun _ => ?_)) <;> try (exfalso; omega)) | (with_reducible refine Way.nt ?_) | ((with_reducible refine Way.mk (fun _ => ?_) (fun _ => ?_)) <;> try (exfalso; rename_i hw; first | exact Bool.noConfusion ((Go.RowKit.Hid.out hv1).symm.trans hw) | exact Bool.noConfusion (hw.symm.trans (Go.RowKit.Hid.out hv1)))) | (with_reducible refine Drawn.mk (by kernel_rfl) ?_) | (refine Run.mk ?_)))
      all_goals try (exfalso; rename_i e1 e2; exact Bool.noConfusion (hv2.out.symm.trans e2))
      refine Ret.mk ?_
      exact ⟨⟨rfl, .frz rfl, True.intro⟩, ⟨rfl, .same, .same, True.intro⟩, True.intro⟩
  · have hv1 : (decide (pC p = 0) && decide (pI p = 0)) = false := by rw [decide_eq_false hp]; rfl
    have c1 : coC p q = pC p := if_pos hp
    have c2 : coI p q = pI p := if_pos hp
    rw [show coP p q = [] from if_neg (by rw [c1]; exact hp), c1, c2]
    replace hv1 := Lib.hid hv1
    clear c1 c2
    (refine fnM_of rfl rfl rfl rfl ?_; dsimp only [params, argAV, Ty.leaves, Ty.isSt])
    (repeat' (first | (with_reducible refine Cend.go ?_) | (with_reducible refine Step.mk True.intro ?_) | (with_reducible refine Step.mk ?_ ?_; focus (((try simp only [true_and, and_true, and_self, kmin, kmax, decide_eq_true_eq, decide_eq_false_iff_not, castD_self, castL_self, List.length_cons, List.length_nil, List.length_append, Int.natCast_add] at *) <;> omega))) | (with_reducible refine Step.mk ?_ ?_) | (with_reducible refine Way.t1 ?_) | (with_reducible refine Way.f1 ?_) | ((with_reducible refine Way.dec (fun _ => ?_) (fun _ => ?_)) <;> try (exfalso; omega)) | (with_reducible refine Way.nt ?_) | ((with_reducible refine Way.mk (fun _ => ?_) (fun _ => ?_)) <;> try (exfalso; rename_i hw; first | exact Bool.noConfusion ((Go.RowKit.Hid.out hv1).symm.trans hw) | exact Bool.noConfusion (hw.symm.trans (Go.RowKit.Hid.out hv1)))) | (with_reducible refine Drawn.mk (by kernel_rfl) ?_) | (refine Run.mk ?_)))
    refine Ret.mk ?_
    exact ⟨⟨rfl, .frz rfl, True.intro⟩, ⟨rfl, .same, .same, True.intro⟩, True.intro⟩
end Go.Proofs.Ythacjpemeaekdaa
