/- The walks of the reference's Resolve, Clean; opposed; law Merge3ResolveMatchesSpec. -/
import Derived.Test.YtppmhjaooiameaaWxM3E
namespace Go.Proofs.Ytppmhjaooiameaa
open Go.RowKit
set_option maxRecDepth 10000
set_option linter.unusedSimpArgs false

def sp_RResolve : SpecF := pureSp false [.slice tCh, .slice (.int .i64)] (fun _ => True) (fun (l', c', _) => .tu [(false, [.d (.slice .str) (rsL l' c')]), (true, [.d (.int .i64) (rsF l' c').1, .d (.int .i64) (rsF l' c').2])])
set_option maxHeartbeats 1000000 in
theorem RResolve_sp : SpFact 19 sp_RResolve := by
  refine ⟨⟨Try.f19, rfl, rfl, rfl, pureSp_okF (env_fine (sp := [(41, sp_check), (42, sp_Conf), (33, sp_At)]) (eq := []) ⟨CFault_sp, Conf_sp, At_sp, True.intro⟩ True.intro) rfl (fun ⟨_, _, _⟩ _ => rfl) ?_⟩, pureSp_loc _ _ _ _⟩
  rintro ⟨l, ch, u⟩ ⟨-, ⟨hcl, -⟩, -⟩ -
  change List Ch at l
  change List Int at ch
  rw [maxLen_eq] at hcl
  have hcl : ch.length ≤ 9223372036854775807 := hcl
  by_cases hv0 : ckC l = 0
  · obtain ⟨hlen, hall⟩ := ckC_all.1 hv0
    have hnl := nCf_len l
    replace hall := Lib.hid hall
    have hl6 : l.length ≤ 1000000 := by omega
    by_cases hch : ch.length = nCf l
    · have hv := Lib.hid hv0
      (refine fnM_of rfl rfl rfl rfl ?_; dsimp only [params, argAV, Ty.leaves, Ty.isSt])
      (repeat' (first | (with_reducible refine Cend.go ?_) | (with_reducible refine Step.mk True.intro ?_) | (with_reducible refine Step.mk ?_ ?_; focus (((try simp only [true_and, and_true, and_self, kmin, kmax, decide_eq_true_eq, decide_eq_false_iff_not, castD_self, castL_self, List.length_cons, List.length_nil, List.length_append, Int.natCast_add] at *) <;> omega))) | (with_reducible refine Step.mk ?_ ?_) | (with_reducible refine Way.t1 ?_) | (with_reducible refine Way.f1 ?_) | ((with_reducible refine Way.dec (fun zz => ?_) (fun zz => ?_)) <;> (try simp only [castD_self, castL_self] at zz) <;> try (exfalso; first | omega | contradiction)) | (with_reducible refine Way.nt ?_) | ((with_reducible refine Way.mk (fun _ => ?_) (fun _ => ?_)) <;> try (exfalso; rename_i hw; first | exact Bool.noConfusion ((Go.RowKit.Hid.out hv).symm.trans hw) | exact Bool.noConfusion (hw.symm.trans (Go.RowKit.Hid.out hv)))) | (with_reducible refine Drawn.mk (by kernel_rfl) ?_) | (refine Run.mk ?_)))
      refine loop_by (X := Nat) (fun x => [.put 0 (.v false [.d (.slice tCh) l]), .put 1 (.v false [.d (.slice (.int .i64)) ch]), .put 5 (.v false [.p 5 0]), .put 7 (.v false [.d (.int .i64) (x : Int)])])
        (fun x => [.put 5 (.box 25 [.d (.int .i64) 0, .d (.int .i64) 0])]) (fun x => x ≤ ch.length ∧ badI 0 ch = badI x (ch.drop x)) (fun x => ch.length - x) 0 ⟨Nat.zero_le _, rfl⟩ ?_ ?_
      · (refine Wk.keep ?_ ?_ <;> repeat' (first | exact True.intro | refine And.intro rfl ?_ | refine And.intro (congrArg (fun z : Int => AV.v false [Lf.d (.int .i64) z]) (by first | omega | (simp only [Int.natCast_add, List.length_cons, List.length_append, List.length_nil]; omega))) ?_ | refine And.intro ?_ ?_))
      rintro x ⟨hx, hbd⟩
      (try dsimp only at hx hbd ⊢)
      by_cases hxt : x < ch.length
      · have hg : ch.getD ((x : Int)).toNat (Ty.int .i64).dflt = ch[x] := getD_at (Ty.int .i64).dflt hxt
        rw [badI_step hxt, ← hg] at hbd
        replace hg := Lib.hid hg
        have bad : ch.getD ((x : Int)).toNat (Ty.int .i64).dflt < 0 ∨ 3 < ch.getD ((x : Int)).toNat (Ty.int .i64).dflt → rsF l ch = (3, -3 - (x : Int)) ∧ rsL l ch = [] := fun z => by
          rw [if_pos z] at hbd
          have e1 : rsF l ch = (3, -3 - (x : Int)) := by unfold rsF; rw [if_neg (fun z => z hv0), if_neg (fun z => z hch), hbd]
          exact ⟨e1, by unfold rsL; rw [e1]; rfl⟩
        have good : ¬ (ch.getD ((x : Int)).toNat (Ty.int .i64).dflt < 0 ∨ 3 < ch.getD ((x : Int)).toNat (Ty.int .i64).dflt) → badI 0 ch = badI (x + 1) (ch.drop (x + 1)) := fun z => hbd.trans (if_neg z)
        replace bad := Lib.hid bad
        replace good := Lib.hid good
        clear hbd
        (repeat' (first | (with_reducible refine Cend.go ?_) | (with_reducible refine Step.mk True.intro ?_) | (with_reducible refine Step.mk ?_ ?_; focus (((try simp only [true_and, and_true, and_self, kmin, kmax, decide_eq_true_eq, decide_eq_false_iff_not, castD_self, castL_self, List.length_cons, List.length_nil, List.length_append, Int.natCast_add] at *) <;> omega))) | (with_reducible refine Step.mk ?_ ?_) | (with_reducible refine Way.t1 ?_) | (with_reducible refine Way.f1 ?_) | ((with_reducible refine Way.dec (fun _ => ?_) (fun _ => ?_)) <;> try (exfalso; omega)) | (with_reducible refine Way.nt ?_) | (with_reducible refine Way.mk (fun _ => ?_) (fun _ => ?_)) | (with_reducible refine Drawn.mk (by kernel_rfl) ?_) | (refine Run.mk ?_)))
        · rename_i q
          obtain ⟨e1, e3⟩ := bad.out (by omega)
          refine Ret.mk ?_
          rw [e1, e3]
          exact ⟨⟨rfl, .frz rfl, True.intro⟩, ⟨rfl, .same, .same, True.intro⟩, True.intro⟩
        · rename_i q
          obtain ⟨e1, e3⟩ := bad.out (by omega)
          refine Ret.mk ?_
          rw [e1, e3]
          exact ⟨⟨rfl, .frz rfl, True.intro⟩, ⟨rfl, .same, .same, True.intro⟩, True.intro⟩
        · rename_i q1 q2
          refine Back.by (x + 1) ?_ ?_ ?_
          · (refine Wk.keep ?_ ?_ <;> repeat' (first | exact True.intro | refine And.intro rfl ?_ | refine And.intro (congrArg (fun z : Int => AV.v false [Lf.d (.int .i64) z]) (by first | omega | (simp only [Int.natCast_add, List.length_cons, List.length_append, List.length_nil]; omega))) ?_ | refine And.intro ?_ ?_))
          · exact ⟨hxt, good.out (by omega)⟩
          · show ch.length - (x + 1) < ch.length - x; omega
      · have hbd : badI 0 ch = none := by rw [hbd, List.drop_eq_nil_of_le (by omega)]; rfl
        have hcb := badI_none.1 hbd
        replace hcb := Lib.hid hcb
        (repeat' (first | (with_reducible refine Cend.go ?_) | (with_reducible refine Step.mk True.intro ?_) | (with_reducible refine Step.mk ?_ ?_; focus (((try simp only [true_and, and_true, and_self, kmin, kmax, decide_eq_true_eq, decide_eq_false_iff_not, castD_self, castL_self, List.length_cons, List.length_nil, List.length_append, Int.natCast_add] at *) <;> omega))) | (with_reducible refine Step.mk ?_ ?_) | (with_reducible refine Way.t1 ?_) | (with_reducible refine Way.f1 ?_) | ((with_reducible refine Way.dec (fun _ => ?_) (fun _ => ?_)) <;> try (exfalso; omega)) | (with_reducible refine Way.nt ?_) | (with_reducible refine Way.mk (fun _ => ?_) (fun _ => ?_)) | (with_reducible refine Drawn.mk (by kernel_rfl) ?_) | (refine Run.mk ?_)))
        refine loop_by (X := Nat × List ByteArray) (fun x => [.put 0 (.v false [.d (.slice tCh) l]), .put 1 (.v false [.d (.slice (.int .i64)) ch]), .put 5 (.v false [.p 5 0]), .put 8 (.v false [.o 91]), .put 9 (.v false [.d (.int .i64) (nCf (l.take x.1) : Int)]), .put 10 (.v false [.d (.int .i64) (x.1 : Int)])])
          (fun x => [.put 5 (.box 25 [.d (.int .i64) 0, .d (.int .i64) 0]), .put 91 (.row 9 .str x.2)]) (fun x => x.1 ≤ l.length ∧ rsN l ch = x.2 ++ rsN (l.drop x.1) (ch.drop (nCf (l.take x.1))) ∧ x.2.length ≤ 240 * x.1) (fun x => l.length - x.1) (0, []) ⟨Nat.zero_le _, rfl, Nat.le_refl _⟩ ?_ ?_
        · refine (Wk.nilrow 8 91 9 .str rfl).trans ?_
          (refine Wk.keep ?_ ?_ <;> repeat' (first | exact True.intro | refine And.intro rfl ?_ | refine And.intro (congrArg (fun z : Int => AV.v false [Lf.d (.int .i64) z]) (by first | omega | (simp only [Int.natCast_add, List.length_cons, List.length_append, List.length_nil]; omega))) ?_ | refine And.intro ?_ ?_))
        rintro ⟨y, M⟩ ⟨hy, hr, hm⟩
        dsimp only at hy hr hm ⊢
        by_cases hyt : y < l.length
        · have hg : l.getD ((y : Int)).toNat tCh.dflt = l[y] := getD_at tCh.dflt hyt
          have hb := pickC_len (hall.out l[y] (List.getElem_mem hyt))
          have hnt := nCf_take hyt
          have hno := @rsN_no l y hyt
          have hye := @rsN_yes l y (nCf (l.take y)) hyt
          have hle := nCf_le l (y + 1)
          rw [← hg] at hb hnt
          cases hc : (l.getD ((y : Int)).toNat tCh.dflt).1
          · have hno := hno (by rw [← hg]; exact hc) (ch.drop (nCf (l.take y)))
            rw [← hg] at hno
            rw [hno] at hr
            rw [hc] at hnt
            have hnt : nCf (l.take (y + 1)) = nCf (l.take y) := hnt
            obtain ⟨b0, b1, b2, b3, b4⟩ := hb 0
            clear hno hye hb
            replace hc := Lib.hid hc
            replace hg := Lib.hid hg
            replace hr := Lib.hid hr
            (repeat' (first | (with_reducible refine Cend.go ?_) | (with_reducible refine Step.mk True.intro ?_) | (with_reducible refine Step.mk ?_ ?_; focus (((try simp only [true_and, and_true, and_self, kmin, kmax, decide_eq_true_eq, decide_eq_false_iff_not, castD_self, castL_self, List.length_cons, List.length_nil, List.length_append, Int.natCast_add] at *) <;> omega))) | (with_reducible refine Step.mk ?_ ?_) | (with_reducible refine Way.t1 ?_) | (with_reducible refine Way.f1 ?_) | ((with_reducible refine Way.dec (fun _ => ?_) (fun _ => ?_)) <;> try (exfalso; omega)) | (with_reducible refine Way.nt ?_) | ((with_reducible refine Way.mk (fun _ => ?_) (fun _ => ?_)) <;> try (exfalso; rename_i hw; first | exact Bool.noConfusion ((Go.RowKit.Hid.out hc).symm.trans hw) | exact Bool.noConfusion (hw.symm.trans (Go.RowKit.Hid.out hc)))) | (with_reducible refine Drawn.mk (by kernel_rfl) ?_) | (refine Run.mk ?_)))
            refine Back.by (y + 1, M ++ (l.getD ((y : Int)).toNat tCh.dflt).2.1) ?_ ?_ ?_
            · rw [hnt]
              (refine Wk.ren [(91, 63)] rfl ?_ ?_ <;> repeat' (first | exact True.intro | refine And.intro rfl ?_ | refine And.intro (congrArg (fun z : Int => AV.v false [Lf.d (.int .i64) z]) (by first | omega | (simp only [Int.natCast_add, List.length_cons, List.length_append, List.length_nil]; omega))) ?_ | refine And.intro ?_ ?_))
            · refine ⟨hyt, ?_, ?_⟩
              · dsimp only
                rw [hnt]
                exact hr.out.trans (List.append_assoc _ _ _).symm
              · show (M ++ (l.getD ((y : Int)).toNat tCh.dflt).2.1).length ≤ 240 * (y + 1)
                rw [List.length_append]; omega
            · show l.length - (y + 1) < l.length - y; omega
          · have hye := hye (by rw [← hg]; exact hc) ch
            rw [← hg] at hye
            rw [hye] at hr
            rw [hc] at hnt
            have hnt : nCf (l.take (y + 1)) = nCf (l.take y) + 1 := hnt
            have hjt : nCf (l.take y) < ch.length := by omega
            have hgj : ch.getD (((nCf (l.take y) : Nat) : Int)).toNat (Ty.int .i64).dflt = ch[nCf (l.take y)] := getD_at (Ty.int .i64).dflt hjt
            have hn := hcb.out _ (List.getElem_mem hjt)
            rw [← hgj] at hn
            have hgj2 : ch.getD (nCf (l.take y)) 0 = ch.getD (((nCf (l.take y) : Nat) : Int)).toNat (Ty.int .i64).dflt := by rw [Int.toNat_natCast]; rfl
            rw [hgj2] at hr
            have b0 := (hb (ch.getD (((nCf (l.take y) : Nat) : Int)).toNat (Ty.int .i64).dflt)).1
            obtain ⟨-, b1, b2, b3, b4⟩ := hb 0
            clear hno hye hb hgj2
            obtain ⟨J, hJ⟩ : ∃ J, nCf (l.take y) = J := ⟨_, rfl⟩
            clear hgj
            rw [hJ] at hnt hjt hn hr b0 ⊢
            replace hJ := Lib.hid hJ
            replace hc := Lib.hid hc
            replace hg := Lib.hid hg
            have hcases : ∀ E, pickC (l.getD ((y : Int)).toNat tCh.dflt) (ch.getD (((J : Nat) : Int)).toNat (Ty.int .i64).dflt) = E → y + 1 ≤ l.length ∧ rsN l ch = (M ++ E) ++ rsN (l.drop (y + 1)) (ch.drop (J + 1)) ∧ (M ++ E).length ≤ 240 * (y + 1) := fun E hE => by
              subst hE
              refine ⟨hyt, hr.trans (List.append_assoc _ _ _).symm, ?_⟩
              rw [List.length_append]; omega
            replace hcases := Lib.hid hcases
            clear hr
            have hm2 : ((ch.getD (((J : Nat) : Int)).toNat (Ty.int .i64).dflt = 0 ∧ Int.tmod (ch.getD (((J : Nat) : Int)).toNat (Ty.int .i64).dflt) 2 = 0) ∨ (ch.getD (((J : Nat) : Int)).toNat (Ty.int .i64).dflt = 1 ∧ Int.tmod (ch.getD (((J : Nat) : Int)).toNat (Ty.int .i64).dflt) 2 = 1)) ∨ ((ch.getD (((J : Nat) : Int)).toNat (Ty.int .i64).dflt = 2 ∧ Int.tmod (ch.getD (((J : Nat) : Int)).toNat (Ty.int .i64).dflt) 2 = 0) ∨ (ch.getD (((J : Nat) : Int)).toNat (Ty.int .i64).dflt = 3 ∧ Int.tmod (ch.getD (((J : Nat) : Int)).toNat (Ty.int .i64).dflt) 2 = 1)) := by
              generalize ch.getD (((J : Nat) : Int)).toNat (Ty.int .i64).dflt = n at hn ⊢
              obtain ⟨n1, n2⟩ := hn
              rcases (show n = 0 ∨ n = 1 ∨ n = 2 ∨ n = 3 by omega) with rfl | rfl | rfl | rfl
              · exact .inl (.inl ⟨rfl, rfl⟩)
              · exact .inl (.inr ⟨rfl, rfl⟩)
              · exact .inr (.inl ⟨rfl, rfl⟩)
              · exact .inr (.inr ⟨rfl, rfl⟩)
            rcases hm2 with (⟨g1, g2⟩ | ⟨g1, g2⟩) | (⟨g1, g2⟩ | ⟨g1, g2⟩)
            · have hq := hcases.out (l.getD ((y : Int)).toNat tCh.dflt).2.2.1 (by unfold pickC; rw [if_pos g1])
              replace hq := Lib.hid hq
              (repeat' (first | (with_reducible refine Cend.go ?_) | (with_reducible refine Step.mk True.intro ?_) | (with_reducible refine Step.mk ?_ ?_; focus (((try simp only [true_and, and_true, and_self, kmin, kmax, decide_eq_true_eq, decide_eq_false_iff_not, castD_self, castL_self, List.length_cons, List.length_nil, List.length_append, Int.natCast_add] at *) <;> omega))) | (with_reducible refine Step.mk ?_ ?_) | (with_reducible refine Way.t1 ?_) | (with_reducible refine Way.f1 ?_) | ((with_reducible refine Way.dec (fun _ => ?_) (fun _ => ?_)) <;> try (exfalso; omega)) | (with_reducible refine Way.nt ?_) | ((with_reducible refine Way.mk (fun _ => ?_) (fun _ => ?_)) <;> try (exfalso; rename_i hw; first | exact Bool.noConfusion ((Go.RowKit.Hid.out hc).symm.trans hw) | exact Bool.noConfusion (hw.symm.trans (Go.RowKit.Hid.out hc)))) | (with_reducible refine Drawn.mk (by kernel_rfl) ?_) | (refine Run.mk ?_)))
              refine Back.by (y + 1, M ++ (l.getD ((y : Int)).toNat tCh.dflt).2.2.1) ?_ ?_ ?_
              · rw [hnt]
                (refine Wk.ren [(91, 78)] rfl ?_ ?_ <;> repeat' (first | exact True.intro | refine And.intro rfl ?_ | refine And.intro (congrArg (fun z : Int => AV.v false [Lf.d (.int .i64) z]) (by first | omega | (simp only [Int.natCast_add, List.length_cons, List.length_append, List.length_nil]; omega))) ?_ | refine And.intro ?_ ?_))
              · dsimp only
                rw [hnt]
                exact hq.out
              · show l.length - (y + 1) < l.length - y; omega
            · have hq := hcases.out (l.getD ((y : Int)).toNat tCh.dflt).2.2.2.1 (by unfold pickC; rw [if_neg (by omega), if_pos g1])
              replace hq := Lib.hid hq
              (repeat' (first | (with_reducible refine Cend.go ?_) | (with_reducible refine Step.mk True.intro ?_) | (with_reducible refine Step.mk ?_ ?_; focus (((try simp only [true_and, and_true, and_self, kmin, kmax, decide_eq_true_eq, decide_eq_false_iff_not, castD_self, castL_self, List.length_cons, List.length_nil, List.length_append, Int.natCast_add] at *) <;> omega))) | (with_reducible refine Step.mk ?_ ?_) | (with_reducible refine Way.t1 ?_) | (with_reducible refine Way.f1 ?_) | ((with_reducible refine Way.dec (fun _ => ?_) (fun _ => ?_)) <;> try (exfalso; omega)) | (with_reducible refine Way.nt ?_) | ((with_reducible refine Way.mk (fun _ => ?_) (fun _ => ?_)) <;> try (exfalso; rename_i hw; first | exact Bool.noConfusion ((Go.RowKit.Hid.out hc).symm.trans hw) | exact Bool.noConfusion (hw.symm.trans (Go.RowKit.Hid.out hc)))) | (with_reducible refine Drawn.mk (by kernel_rfl) ?_) | (refine Run.mk ?_)))
              refine Back.by (y + 1, M ++ (l.getD ((y : Int)).toNat tCh.dflt).2.2.2.1) ?_ ?_ ?_
              · rw [hnt]
                (refine Wk.ren [(91, 88)] rfl ?_ ?_ <;> repeat' (first | exact True.intro | refine And.intro rfl ?_ | refine And.intro (congrArg (fun z : Int => AV.v false [Lf.d (.int .i64) z]) (by first | omega | (simp only [Int.natCast_add, List.length_cons, List.length_append, List.length_nil]; omega))) ?_ | refine And.intro ?_ ?_))
              · dsimp only
                rw [hnt]
                exact hq.out
              · show l.length - (y + 1) < l.length - y; omega
            · have hq := hcases.out (l.getD ((y : Int)).toNat tCh.dflt).2.2.2.2 (by unfold pickC; rw [if_neg (by omega), if_neg (by omega), if_pos g1])
              replace hq := Lib.hid hq
              (repeat' (first | (with_reducible refine Cend.go ?_) | (with_reducible refine Step.mk True.intro ?_) | (with_reducible refine Step.mk ?_ ?_; focus (((try simp only [true_and, and_true, and_self, kmin, kmax, decide_eq_true_eq, decide_eq_false_iff_not, castD_self, castL_self, List.length_cons, List.length_nil, List.length_append, Int.natCast_add] at *) <;> omega))) | (with_reducible refine Step.mk ?_ ?_) | (with_reducible refine Way.t1 ?_) | (with_reducible refine Way.f1 ?_) | ((with_reducible refine Way.dec (fun _ => ?_) (fun _ => ?_)) <;> try (exfalso; omega)) | (with_reducible refine Way.nt ?_) | ((with_reducible refine Way.mk (fun _ => ?_) (fun _ => ?_)) <;> try (exfalso; rename_i hw; first | exact Bool.noConfusion ((Go.RowKit.Hid.out hc).symm.trans hw) | exact Bool.noConfusion (hw.symm.trans (Go.RowKit.Hid.out hc)))) | (with_reducible refine Drawn.mk (by kernel_rfl) ?_) | (refine Run.mk ?_)))
              refine Back.by (y + 1, M ++ (l.getD ((y : Int)).toNat tCh.dflt).2.2.2.2) ?_ ?_ ?_
              · rw [hnt]
                (refine Wk.ren [(91, 97)] rfl ?_ ?_ <;> repeat' (first | exact True.intro | refine And.intro rfl ?_ | refine And.intro (congrArg (fun z : Int => AV.v false [Lf.d (.int .i64) z]) (by first | omega | (simp only [Int.natCast_add, List.length_cons, List.length_append, List.length_nil]; omega))) ?_ | refine And.intro ?_ ?_))
              · dsimp only
                rw [hnt]
                exact hq.out
              · show l.length - (y + 1) < l.length - y; omega
            · have hq := hcases.out ((l.getD ((y : Int)).toNat tCh.dflt).2.2.2.1 ++ (l.getD ((y : Int)).toNat tCh.dflt).2.2.2.2) (by unfold pickC; rw [if_neg (by omega), if_neg (by omega), if_neg (by omega)])
              replace hq := Lib.hid hq
              (repeat' (first | (with_reducible refine Cend.go ?_) | (with_reducible refine Step.mk True.intro ?_) | (with_reducible refine Step.mk ?_ ?_; focus (((try simp only [true_and, and_true, and_self, kmin, kmax, decide_eq_true_eq, decide_eq_false_iff_not, castD_self, castL_self, List.length_cons, List.length_nil, List.length_append, Int.natCast_add] at *) <;> omega))) | (with_reducible refine Step.mk ?_ ?_) | (with_reducible refine Way.t1 ?_) | (with_reducible refine Way.f1 ?_) | ((with_reducible refine Way.dec (fun _ => ?_) (fun _ => ?_)) <;> try (exfalso; omega)) | (with_reducible refine Way.nt ?_) | ((with_reducible refine Way.mk (fun _ => ?_) (fun _ => ?_)) <;> try (exfalso; rename_i hw; first | exact Bool.noConfusion ((Go.RowKit.Hid.out hc).symm.trans hw) | exact Bool.noConfusion (hw.symm.trans (Go.RowKit.Hid.out hc)))) | (with_reducible refine Drawn.mk (by kernel_rfl) ?_) | (refine Run.mk ?_)))
              refine Back.by (y + 1, M ++ ((l.getD ((y : Int)).toNat tCh.dflt).2.2.2.1 ++ (l.getD ((y : Int)).toNat tCh.dflt).2.2.2.2)) ?_ ?_ ?_
              · rw [hnt]
                rw [← List.append_assoc]
                (refine Wk.ren [(91, 97)] rfl ?_ ?_ <;> repeat' (first | exact True.intro | refine And.intro rfl ?_ | refine And.intro (congrArg (fun z : Int => AV.v false [Lf.d (.int .i64) z]) (by first | omega | (simp only [Int.natCast_add, List.length_cons, List.length_append, List.length_nil]; omega))) ?_ | refine And.intro ?_ ?_))
              · dsimp only
                rw [hnt]
                exact hq.out
              · show l.length - (y + 1) < l.length - y; omega
        · rw [List.drop_eq_nil_of_le (by omega)] at hr
          have hr : rsN l ch = M := hr.trans (List.append_nil M)
          subst hr
          by_cases h120 : 120 < (rsN l ch).length
          · have e1 : rsF l ch = (10, -1) := by unfold rsF; rw [if_neg (fun z => z hv0), if_neg (fun z => z hch), hbd]; exact if_pos h120
            have e3 : rsL l ch = [] := by unfold rsL; rw [e1]; rfl
            (repeat' (first | (with_reducible refine Cend.go ?_) | (with_reducible refine Step.mk True.intro ?_) | (with_reducible refine Step.mk ?_ ?_; focus (((try simp only [true_and, and_true, and_self, kmin, kmax, decide_eq_true_eq, decide_eq_false_iff_not, castD_self, castL_self, List.length_cons, List.length_nil, List.length_append, Int.natCast_add] at *) <;> omega))) | (with_reducible refine Step.mk ?_ ?_) | (with_reducible refine Way.t1 ?_) | (with_reducible refine Way.f1 ?_) | ((with_reducible refine Way.dec (fun _ => ?_) (fun _ => ?_)) <;> try (exfalso; omega)) | (with_reducible refine Way.nt ?_) | (with_reducible refine Way.mk (fun _ => ?_) (fun _ => ?_)) | (with_reducible refine Drawn.mk (by kernel_rfl) ?_) | (refine Run.mk ?_)))
            refine Ret.mk ?_
            rw [e1, e3]
            exact ⟨⟨rfl, .frz rfl, True.intro⟩, ⟨rfl, .same, .same, True.intro⟩, True.intro⟩
          · have e1 : rsF l ch = (0, 0) := by unfold rsF; rw [if_neg (fun z => z hv0), if_neg (fun z => z hch), hbd]; exact if_neg h120
            have e3 : rsL l ch = rsN l ch := by unfold rsL; rw [e1]; rfl
            (repeat' (first | (with_reducible refine Cend.go ?_) | (with_reducible refine Step.mk True.intro ?_) | (with_reducible refine Step.mk ?_ ?_; focus (((try simp only [true_and, and_true, and_self, kmin, kmax, decide_eq_true_eq, decide_eq_false_iff_not, castD_self, castL_self, List.length_cons, List.length_nil, List.length_append, Int.natCast_add] at *) <;> omega))) | (with_reducible refine Step.mk ?_ ?_) | (with_reducible refine Way.t1 ?_) | (with_reducible refine Way.f1 ?_) | ((with_reducible refine Way.dec (fun _ => ?_) (fun _ => ?_)) <;> try (exfalso; omega)) | (with_reducible refine Way.nt ?_) | (with_reducible refine Way.mk (fun _ => ?_) (fun _ => ?_)) | (with_reducible refine Drawn.mk (by kernel_rfl) ?_) | (refine Run.mk ?_)))
            refine Ret.mk ?_
            rw [e1, e3]
            exact ⟨⟨rfl, .frz rfl, True.intro⟩, ⟨rfl, .same, .same, True.intro⟩, True.intro⟩
    · have e1 : rsF l ch = (9, -2) := by unfold rsF; rw [if_neg (fun z => z hv0), if_pos hch]
      have e3 : rsL l ch = [] := by unfold rsL; rw [e1]; rfl
      have hv := Lib.hid hv0
      (refine fnM_of rfl rfl rfl rfl ?_; dsimp only [params, argAV, Ty.leaves, Ty.isSt])
      (repeat' (first | (with_reducible refine Cend.go ?_) | (with_reducible refine Step.mk True.intro ?_) | (with_reducible refine Step.mk ?_ ?_; focus (((try simp only [true_and, and_true, and_self, kmin, kmax, decide_eq_true_eq, decide_eq_false_iff_not, castD_self, castL_self, List.length_cons, List.length_nil, List.length_append, Int.natCast_add] at *) <;> omega))) | (with_reducible refine Step.mk ?_ ?_) | (with_reducible refine Way.t1 ?_) | (with_reducible refine Way.f1 ?_) | ((with_reducible refine Way.dec (fun zz => ?_) (fun zz => ?_)) <;> (try simp only [castD_self, castL_self] at zz) <;> try (exfalso; first | omega | contradiction)) | (with_reducible refine Way.nt ?_) | ((with_reducible refine Way.mk (fun _ => ?_) (fun _ => ?_)) <;> try (exfalso; rename_i hw; first | exact Bool.noConfusion ((Go.RowKit.Hid.out hv).symm.trans hw) | exact Bool.noConfusion (hw.symm.trans (Go.RowKit.Hid.out hv)))) | (with_reducible refine Drawn.mk (by kernel_rfl) ?_) | (refine Run.mk ?_)))
      refine Ret.mk ?_
      rw [e1, e3]
      exact ⟨⟨rfl, .frz rfl, True.intro⟩, ⟨rfl, .same, .same, True.intro⟩, True.intro⟩
  · have e1 : rsF l ch = (ckC l, ckI l) := if_pos hv0
    have e3 : rsL l ch = [] := by unfold rsL; rw [e1]; exact if_neg hv0
    have hv := Lib.hid e1
    (refine fnM_of rfl rfl rfl rfl ?_; dsimp only [params, argAV, Ty.leaves, Ty.isSt])
    (repeat' (first | (with_reducible refine Cend.go ?_) | (with_reducible refine Step.mk True.intro ?_) | (with_reducible refine Step.mk ?_ ?_; focus (((try simp only [true_and, and_true, and_self, kmin, kmax, decide_eq_true_eq, decide_eq_false_iff_not, castD_self, castL_self, List.length_cons, List.length_nil, List.length_append, Int.natCast_add] at *) <;> omega))) | (with_reducible refine Step.mk ?_ ?_) | (with_reducible refine Way.t1 ?_) | (with_reducible refine Way.f1 ?_) | ((with_reducible refine Way.dec (fun zz => ?_) (fun zz => ?_)) <;> (try simp only [castD_self, castL_self] at zz) <;> try (exfalso; first | omega | contradiction)) | (with_reducible refine Way.nt ?_) | ((with_reducible refine Way.mk (fun _ => ?_) (fun _ => ?_)) <;> try (exfalso; rename_i hw; first | exact Bool.noConfusion ((Go.RowKit.Hid.out hv).symm.trans hw) | exact Bool.noConfusion (hw.symm.trans (Go.RowKit.Hid.out hv)))) | (with_reducible refine Drawn.mk (by kernel_rfl) ?_) | (refine Run.mk ?_)))
    refine Ret.mk ?_
    rw [e1, e3]
    exact ⟨⟨rfl, .frz rfl, True.intro⟩, ⟨rfl, .same, .same, True.intro⟩, True.intro⟩
end Go.Proofs.Ytppmhjaooiameaa
