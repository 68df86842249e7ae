/- The walk of the reference's Merge; law Merge3MatchesSpec. -/
import Derived.Test.YtppmhjaooiameaaWxM3M
import Derived.Test.YtppmhjaooiameaaWxM3P
import Derived.Test.YtppmhjaooiameaaWxRefPat
import Derived.Test.YtppmhjaooiameaaWxRefTwo
namespace Go.Proofs.Ytppmhjaooiameaa
open Go.RowKit
set_option maxRecDepth 10000
set_option linter.unusedSimpArgs false

theorem vT_len {b : List ByteArray} {p : List Hk} (hp : ∀ h ∈ p, HkOk h) (hl : p.length ≤ 130) (hi : Int) : ∀ (m : Nat) (k : Int), (vT b p hi m k).length ≤ 15601 * m
  | 0, _ => Nat.zero_le _
  | m + 1, k => by
    have ih := vT_len (b := b) hp hl hi m (k + 1)
    have hs := vS_len hp k
    show ((vS p k ++ _) ++ vT b p hi m (k + 1)).length ≤ _
    rw [List.length_append, List.length_append]
    split
    · rw [List.length_singleton]; omega
    · rw [List.length_nil]; omega
set_option maxHeartbeats 4000000 in
theorem RMerge_sp : SpFact 10 sp_Merge := by
  refine ⟨⟨Try.f10, rfl, rfl, rfl, pureSp_okF (env1_fine (sp := [(31, sp_TwoF), (32, sp_LCode), (33, sp_At), (34, sp_RScript), (35, sp_joined), (36, sp_covers), (37, sp_variant), (38, sp_REqual)]) (eq := []) (inl := []) (cl := [116, 126, 145]) ⟨TwoF_sp, LCode_sp, At_sp, RScript_sp, joined_sp, covers_sp, variant_sp, REqual_sp, True.intro⟩ True.intro True.intro) rfl (fun _ _ => rfl) ?_⟩, pureSp_loc _ _ _ _⟩
  rintro ⟨b, l, r, u⟩ - -
  change List ByteArray at b l r
  by_cases h0 : bC b l = 0
  · obtain ⟨hbl, hl0, hi⟩ := bgood h0
    by_cases hr : vC r = 0
    · obtain ⟨g1, g2⟩ := (bC_good b l).1 h0
      have hb0 := (vC_good b).2 g1
      have hl1 := (vC_good l).2 g2
      have hrl := vC_len r hr
      obtain ⟨hpo, hpl, hpp, hpi⟩ := script_in hb0 hl1
      obtain ⟨hqo, hql, hqp, hqi⟩ := script_in hb0 hr
      have hC : mgC b l r = 0 := mgC_good.2 ⟨hb0, hl1, hr⟩
      have hI : mgI b l r = 0 := by unfold mgI; rw [if_neg (fun z => z h0), if_pos hr]
      have hV : mgV b l r = mgL b (script b l) (script b r) := if_pos hC
      dsimp only
      rw [hV, hC, hI]
      have hS := mInv_start (base := b) hpi hqi
      have hcp := phC_ch _ _ hpp
      have hcq := phC_ch _ _ hqp
      clear hV hC hI hi g1 g2 hb0 hl1 hpp hqp
      replace hpo := Lib.hid hpo
      replace hqo := Lib.hid hqo
      replace hpi := Lib.hid hpi
      replace hqi := Lib.hid hqi
      replace hS := Lib.hid hS
      replace hcp := Lib.hid hcp
      replace hcq := Lib.hid hcq
      have hv := Lib.hid h0
      (refine fnM_of rfl rfl rfl rfl ?_; dsimp only [params, argAV, Ty.leaves, Ty.isSt])
      (repeat' (first | (with_reducible refine Cend.go ?_) | (with_reducible refine Step.mk True.intro ?_) | (with_reducible refine Step.mk ?_ ?_; focus (((try simp only [true_and, and_true, and_self, kmin, kmax, decide_eq_true_eq, decide_eq_false_iff_not, castD_self, castL_self, List.length_cons, List.length_nil, List.length_append, Int.natCast_add] at *) <;> omega))) | (with_reducible refine Step.mk ?_ ?_) | (with_reducible refine Way.t1 ?_) | (with_reducible refine Way.f1 ?_) | ((with_reducible refine Way.dec (fun zz => ?_) (fun zz => ?_)) <;> (try simp only [castD_self, castL_self] at zz) <;> try (exfalso; first | omega | contradiction)) | (with_reducible refine Way.nt ?_) | ((with_reducible refine Way.mk (fun _ => ?_) (fun _ => ?_)) <;> try (exfalso; rename_i hw; first | exact Bool.noConfusion ((Go.RowKit.Hid.out hv).symm.trans hw) | exact Bool.noConfusion (hw.symm.trans (Go.RowKit.Hid.out hv)))) | (with_reducible refine Drawn.mk (by kernel_rfl) ?_) | (refine Run.mk ?_)))
      · exact ⟨hbl, ⟨fun h hh => ⟨hpo.out h hh, (hpi.out h hh).2⟩, hpl⟩, fun h hh => ⟨hqo.out h hh, (hqi.out h hh).2⟩, hql⟩
      refine loop_by (X := Nat × List Ch × List ByteArray × Bool) (fun x => [.put 0 (.v false [.d (.slice .str) b]), .put 7 (.v false [.p 7 0]), .put 10 (.v false [.p 10 0]), .put 11 (.v false [.p 11 0]), .put 12 (.v false [.d (.slice (.int .i64)) (mkG b.length (script b l ++ script b r))]), .put 13 (.v false [.o 91]), .put 14 (.v false [bif x.2.2.2 then .d (.slice .str) x.2.2.1 else .o 92]), .put 15 (.v false [.d (.int .i64) (x.1 : Int)])])
        (fun x => bif x.2.2.2 then [.put 7 (.box 25 [.d (.int .i64) 0, .d (.int .i64) 0]), .put 10 (.box 44 [.d (.slice tHk) (script b l)]), .put 11 (.box 44 [.d (.slice tHk) (script b r)]), .put 91 (.row 40 tCh x.2.1)] else [.put 7 (.box 25 [.d (.int .i64) 0, .d (.int .i64) 0]), .put 10 (.box 44 [.d (.slice tHk) (script b l)]), .put 11 (.box 44 [.d (.slice tHk) (script b r)]), .put 91 (.row 40 tCh x.2.1), .put 92 (.row 9 .str x.2.2.1)]) (fun x => x.1 ≤ b.length + 1 ∧ mInv b (script b l) (script b r) x.1 (stM x.2.1 x.2.2.1) ∧ x.2.1.length ≤ 2 * x.1 ∧ x.2.2.1.length ≤ 20000 * x.1 ∧ (x.2.2.2 = true ↔ x.1 = b.length + 1)) (fun x => b.length + 1 - x.1) (0, [], [], false) ⟨Nat.zero_le _, hS.out, Nat.le_refl _, Nat.le_refl _, Iff.intro (fun z => by cases z) (fun z => by omega)⟩ ?_ ?_
      · refine (Wk.nilrow 13 91 40 tCh rfl).trans ?_
        refine (Wk.nilrow 14 92 9 .str rfl).trans ?_
        (refine Wk.keep ?_ ?_ <;> repeat' (first | exact True.intro | refine And.intro rfl ?_ | refine And.intro (congrArg (fun z : Int => AV.v false [Lf.d (.int .i64) z]) (by first | omega | (simp only [Int.natCast_add, List.length_cons, List.length_append, List.length_nil]; omega))) ?_ | refine And.intro ?_ ?_))
      obtain ⟨p, hp⟩ : ∃ p, script b l = p := ⟨_, rfl⟩
      obtain ⟨q, hq⟩ : ∃ q, script b r = q := ⟨_, rfl⟩
      rw [hp, hq]
      rw [hp] at hpl hpo hpi hS hcp
      rw [hq] at hql hqo hqi hS hcq
      replace hp := Lib.hid hp
      replace hq := Lib.hid hq
      clear hS
      rintro ⟨k, o, c, fr⟩ ⟨hk, hI, hol, hcl, hfr⟩
      dsimp only at hk hI hol hcl hfr ⊢
      by_cases hkt : k = b.length + 1
      · have hfr := hfr.2 hkt
        subst hfr
        have hfin := mInv_end (hkt ▸ hI)
        rw [hfin, flush_stM]
        clear hfin hI
        by_cases hc0 : 0 < c.length
        · rw [if_pos hc0]
          dsimp only [cond_true]
          (repeat' (first | (with_reducible refine Cend.go ?_) | (with_reducible refine Step.mk True.intro ?_) | (with_reducible refine Step.mk ?_ ?_; focus (((try simp only [true_and, and_true, and_self, kmin, kmax, decide_eq_true_eq, decide_eq_false_iff_not, castD_self, castL_self, List.length_cons, List.length_nil, List.length_append, Int.natCast_add] at *) <;> omega))) | (with_reducible refine Step.mk ?_ ?_) | (with_reducible refine Way.t1 ?_) | (with_reducible refine Way.f1 ?_) | ((with_reducible refine Way.dec (fun _ => ?_) (fun _ => ?_)) <;> try (exfalso; omega)) | (with_reducible refine Way.nt ?_) | (with_reducible refine Way.mk (fun _ => ?_) (fun _ => ?_)) | (with_reducible refine Drawn.mk (by kernel_rfl) ?_) | (refine Run.mk ?_)))
          exact Ret.mk ⟨⟨rfl, .frz rfl, True.intro⟩, ⟨rfl, .same, .same, True.intro⟩, True.intro⟩
        · rw [if_neg hc0]
          dsimp only [cond_true]
          (repeat' (first | (with_reducible refine Cend.go ?_) | (with_reducible refine Step.mk True.intro ?_) | (with_reducible refine Step.mk ?_ ?_; focus (((try simp only [true_and, and_true, and_self, kmin, kmax, decide_eq_true_eq, decide_eq_false_iff_not, castD_self, castL_self, List.length_cons, List.length_nil, List.length_append, Int.natCast_add] at *) <;> omega))) | (with_reducible refine Step.mk ?_ ?_) | (with_reducible refine Way.t1 ?_) | (with_reducible refine Way.f1 ?_) | ((with_reducible refine Way.dec (fun _ => ?_) (fun _ => ?_)) <;> try (exfalso; omega)) | (with_reducible refine Way.nt ?_) | (with_reducible refine Way.mk (fun _ => ?_) (fun _ => ?_)) | (with_reducible refine Drawn.mk (by kernel_rfl) ?_) | (refine Run.mk ?_)))
          exact Ret.mk ⟨⟨rfl, .frz rfl, True.intro⟩, ⟨rfl, .same, .same, True.intro⟩, True.intro⟩
      · have hfr : fr = false := by
          cases fr with
          | false => rfl
          | true => exact absurd (hfr.1 rfl) hkt
        subst hfr
        dsimp only [cond_false]
        have hml : (mkG b.length (p ++ q)).length = b.length + 1 := mkF_len _ _
        have hget : (mkG b.length (p ++ q)).getD ((k : Int)).toNat (Ty.int .i64).dflt = if gIn (p ++ q) k = true then 1 else 0 := by rw [Int.toNat_natCast]; exact mkF_get _ (by omega) _
        cases hg : gIn (p ++ q) (k : Int)
        · rw [hg, if_neg (by decide)] at hget
          by_cases hkn : k < b.length
          · have hnx := mInv_calm hI hkn hg
            rw [plF_stM] at hnx
            have hbk : b.getD ((k : Int)).toNat Ty.str.dflt = b.getD k ByteArray.empty := by rw [Int.toNat_natCast]; rfl
            replace hnx := Lib.hid hnx
            replace hI := Lib.hid hI
            replace hg := Lib.hid hg
            replace hbk := Lib.hid hbk
            (repeat' (first | (with_reducible refine Cend.go ?_) | (with_reducible refine Step.mk True.intro ?_) | (with_reducible refine Step.mk ?_ ?_; focus (((try simp only [true_and, and_true, and_self, kmin, kmax, decide_eq_true_eq, decide_eq_false_iff_not, castD_self, castL_self, List.length_cons, List.length_nil, List.length_append, Int.natCast_add] at *) <;> omega))) | (with_reducible refine Step.mk ?_ ?_) | (with_reducible refine Way.t1 ?_) | (with_reducible refine Way.f1 ?_) | ((with_reducible refine Way.dec (fun zz => ?_) (fun zz => ?_)) <;> (try simp only [castD_self, castL_self] at zz) <;> try (exfalso; first | omega | contradiction)) | (with_reducible refine Way.nt ?_) | ((with_reducible refine Way.mk (fun _ => ?_) (fun _ => ?_)) <;> try (exfalso; rename_i hw; first | exact Bool.noConfusion ((Go.RowKit.Hid.out hg).symm.trans hw) | exact Bool.noConfusion (hw.symm.trans (Go.RowKit.Hid.out hg)))) | (with_reducible refine Drawn.mk (by kernel_rfl) ?_) | (refine Run.mk ?_)))
            refine Back.by (k + 1, o, (c ++ [b.getD ((k : Int)).toNat Ty.str.dflt]), false) ?_ ?_ ?_
            · (refine Wk.ren [(92, 65)] rfl ?_ ?_ <;> repeat' (first | exact True.intro | refine And.intro rfl ?_ | refine And.intro (congrArg (fun z : Int => AV.v false [Lf.d (.int .i64) z]) (by first | omega | (simp only [Int.natCast_add, List.length_cons, List.length_append, List.length_nil]; omega))) ?_ | refine And.intro ?_ ?_))
            · refine ⟨by omega, (by dsimp only; rw [hbk.out]; exact hnx.out), ?_, ?_, Iff.intro (fun z => by cases z) (fun z => by omega)⟩
              · show (o).length ≤ 2 * (k + 1)
                omega
              · show ((c ++ [b.getD ((k : Int)).toNat Ty.str.dflt])).length ≤ 20000 * (k + 1)
                rw [List.length_append, List.length_singleton]; omega
            · show b.length + 1 - (k + 1) < b.length + 1 - k; omega
          · obtain rfl : k = b.length := by omega
            have hnx := mInv_calm_end hI hg
            replace hnx := Lib.hid hnx
            replace hI := Lib.hid hI
            replace hg := Lib.hid hg
            (repeat' (first | (with_reducible refine Cend.go ?_) | (with_reducible refine Step.mk True.intro ?_) | (with_reducible refine Step.mk ?_ ?_; focus (((try simp only [true_and, and_true, and_self, kmin, kmax, decide_eq_true_eq, decide_eq_false_iff_not, castD_self, castL_self, List.length_cons, List.length_nil, List.length_append, Int.natCast_add] at *) <;> omega))) | (with_reducible refine Step.mk ?_ ?_) | (with_reducible refine Way.t1 ?_) | (with_reducible refine Way.f1 ?_) | ((with_reducible refine Way.dec (fun zz => ?_) (fun zz => ?_)) <;> (try simp only [castD_self, castL_self] at zz) <;> try (exfalso; first | omega | contradiction)) | (with_reducible refine Way.nt ?_) | ((with_reducible refine Way.mk (fun _ => ?_) (fun _ => ?_)) <;> try (exfalso; rename_i hw; first | exact Bool.noConfusion ((Go.RowKit.Hid.out hg).symm.trans hw) | exact Bool.noConfusion (hw.symm.trans (Go.RowKit.Hid.out hg)))) | (with_reducible refine Drawn.mk (by kernel_rfl) ?_) | (refine Run.mk ?_)))
            refine Back.by (b.length + 1, o, c, true) ?_ ?_ ?_
            · refine (Wk.freeze (hl' := [.put 7 (.box 25 [.d (.int .i64) 0, .d (.int .i64) 0]), .put 10 (.box 44 [.d (.slice tHk) p]), .put 11 (.box 44 [.d (.slice tHk) q]), .put 91 (.row 40 tCh o)]) 14 92 rfl rfl (by repeat (first | exact True.intro | refine And.intro rfl ?_)) rfl).trans ?_
              (refine Wk.keep ?_ ?_ <;> repeat' (first | exact True.intro | refine And.intro rfl ?_ | refine And.intro (congrArg (fun z : Int => AV.v false [Lf.d (.int .i64) z]) (by first | omega | (simp only [Int.natCast_add, List.length_cons, List.length_append, List.length_nil]; omega))) ?_ | refine And.intro ?_ ?_))
            · refine ⟨by omega, hnx.out, ?_, ?_, Iff.intro (fun _ => by omega) (fun _ => rfl)⟩
              · show (o).length ≤ 2 * (b.length + 1)
                omega
              · show (c).length ≤ 20000 * (b.length + 1)
                omega
            · show b.length + 1 - (b.length + 1) < b.length + 1 - b.length; omega
        · rw [hg, if_pos rfl] at hget
          obtain ⟨hi, r1, r2, r3, r4, r5, r6, r7⟩ := mInv_region hI hg
          rw [mgS_ref hcp.out hcq.out r1 r2 r3] at r6 r7
          have en : ((hi : Int) - (k : Int) + 1).toNat = hi - k + 1 := by omega
          rw [← en] at r6 r7
          have hcv : ∀ j : Nat, k ≤ j → j < hi → gCov (p ++ q) j = true := r4
          have hpre : (∀ h ∈ p, HkOk h) ∧ p.length ≤ 130 := ⟨hpo.out, hpl⟩
          have hqre : (∀ h ∈ q, HkOk h) ∧ q.length ≤ 130 := ⟨hqo.out, hql⟩
          have lA : (vT b p (hi : Int) ((hi : Int) - (k : Int) + 1).toNat (k : Int)).length ≤ 15601 * (hi - k + 1) := by rw [← en]; exact vT_len hpre.1 hpl _ _ _
          have lB : (vT b q (hi : Int) ((hi : Int) - (k : Int) + 1).toNat (k : Int)).length ≤ 15601 * (hi - k + 1) := by rw [← en]; exact vT_len hqre.1 hql _ _ _
          have hbk : b.getD ((hi : Int)).toNat Ty.str.dflt = b.getD hi ByteArray.empty := by rw [Int.toNat_natCast]; rfl
          have hsl : (b.take ((hi : Int)).toNat).drop ((k : Int)).toNat = (b.take hi).drop k := by rw [Int.toNat_natCast, Int.toNat_natCast]
          clear r1 r4 hI
          replace hcv := Lib.hid hcv
          replace hpre := Lib.hid hpre
          replace hqre := Lib.hid hqre
          replace hg := Lib.hid hg
          replace hbk := Lib.hid hbk
          replace hsl := Lib.hid hsl
          replace r5 := Lib.hid r5
          replace en := Lib.hid en
          cases k1 : vA q (k : Int) ((hi : Int) + 1)
          · have k1n := Lib.hid k1
            (repeat' (first | (with_reducible refine Cend.go ?_) | (with_reducible refine Step.mk True.intro ?_) | (with_reducible refine Step.mk ?_ ?_; focus (((try simp only [true_and, and_true, and_self, kmin, kmax, decide_eq_true_eq, decide_eq_false_iff_not, castD_self, castL_self, List.length_cons, List.length_nil, List.length_append, Int.natCast_add] at *) <;> omega))) | (with_reducible refine Step.mk ?_ ?_) | (with_reducible refine Way.t1 ?_) | (with_reducible refine Way.f1 ?_) | ((with_reducible refine Way.dec (fun zz => ?_) (fun zz => ?_)) <;> (try simp only [castD_self, castL_self] at zz) <;> try (exfalso; first | omega | contradiction)) | (with_reducible refine Way.nt ?_) | ((with_reducible refine Way.mk (fun _ => ?_) (fun _ => ?_)) <;> try (exfalso; rename_i hw; first | exact Bool.noConfusion ((Go.RowKit.Hid.out hg).symm.trans hw) | exact Bool.noConfusion (hw.symm.trans (Go.RowKit.Hid.out hg)))) | (with_reducible refine Drawn.mk (by kernel_rfl) ?_) | (refine Run.mk ?_)))
            refine loop_by (X := Nat) (fun z => [.put 0 (.v false [.d (.slice .str) b]), .put 7 (.v false [.p 7 0]), .put 10 (.v false [.p 10 0]), .put 11 (.v false [.p 11 0]), .put 12 (.v false [.d (.slice (.int .i64)) (mkG b.length (p ++ q))]), .put 13 (.v false [.o 91]), .put 14 (.v false [.o 92]), .put 15 (.v false [.d (.int .i64) (z : Int)]), .put 16 (.v false [.d (.int .i64) (k : Int)])]) (fun z => [.put 7 (.box 25 [.d (.int .i64) 0, .d (.int .i64) 0]), .put 10 (.box 44 [.d (.slice tHk) p]), .put 11 (.box 44 [.d (.slice tHk) q]), .put 91 (.row 40 tCh o), .put 92 (.row 9 .str c)]) (fun z => k ≤ z ∧ z ≤ hi) (fun z => hi - z) k ⟨Nat.le_refl _, r2⟩ ?_ ?_
            · (refine Wk.keep ?_ ?_ <;> repeat' (first | exact True.intro | refine And.intro rfl ?_ | refine And.intro (congrArg (fun z : Int => AV.v false [Lf.d (.int .i64) z]) (by first | omega | (simp only [Int.natCast_add, List.length_cons, List.length_append, List.length_nil]; omega))) ?_ | refine And.intro ?_ ?_))
            rintro z ⟨hz1, hz2⟩
            (try dsimp only at hz1 hz2 ⊢)
            by_cases hzt : z < hi
            · have hcz := hcv.out z hz1 hzt
              replace hcz := Lib.hid hcz
              (repeat' (first | (with_reducible refine Cend.go ?_) | (with_reducible refine Step.mk True.intro ?_) | (with_reducible refine Step.mk ?_ ?_; focus (((try simp only [true_and, and_true, and_self, kmin, kmax, decide_eq_true_eq, decide_eq_false_iff_not, castD_self, castL_self, List.length_cons, List.length_nil, List.length_append, Int.natCast_add] at *) <;> omega))) | (with_reducible refine Step.mk ?_ ?_) | (with_reducible refine Way.t1 ?_) | (with_reducible refine Way.f1 ?_) | ((with_reducible refine Way.dec (fun zz => ?_) (fun zz => ?_)) <;> (try simp only [castD_self, castL_self] at zz) <;> try (exfalso; first | omega | contradiction)) | (with_reducible refine Way.nt ?_) | ((with_reducible refine Way.mk (fun _ => ?_) (fun _ => ?_)) <;> try (exfalso; rename_i hw; first | exact Bool.noConfusion ((Go.RowKit.Hid.out hcz).symm.trans hw) | exact Bool.noConfusion (hw.symm.trans (Go.RowKit.Hid.out hcz)))) | (with_reducible refine Drawn.mk (by kernel_rfl) ?_) | (refine Run.mk ?_)))
              · exact ⟨hpre.out, hqre.out⟩
              refine Back.by (z + 1) ?_ ?_ ?_
              · (refine Wk.keep ?_ ?_ <;> repeat' (first | exact True.intro | refine And.intro rfl ?_ | refine And.intro (congrArg (fun z : Int => AV.v false [Lf.d (.int .i64) z]) (by first | omega | (simp only [Int.natCast_add, List.length_cons, List.length_append, List.length_nil]; omega))) ?_ | refine And.intro ?_ ?_))
              · exact ⟨by omega, by omega⟩
              · show hi - (z + 1) < hi - z; omega
            · obtain rfl : z = hi := by omega
              by_cases hin : z < b.length
              · have hr := r6 hin
                rw [if_pos (.inl k1)] at hr
                rw [plF_stM] at hr
                replace hr := Lib.hid hr
                clear r6 r7
                have hvp := Lib.hid (show b.length ≤ 120 ∧ ((∀ h ∈ p, HkOk h) ∧ p.length ≤ 130) ∧ (0 : Int) ≤ (k : Int) ∧ (k : Int) ≤ (z : Int) ∧ (z : Int) ≤ (b.length : Int) from ⟨hbl, hpre.out, by omega, by omega, by omega⟩)
                have hvq := Lib.hid (show b.length ≤ 120 ∧ ((∀ h ∈ q, HkOk h) ∧ q.length ≤ 130) ∧ (0 : Int) ≤ (k : Int) ∧ (k : Int) ≤ (z : Int) ∧ (z : Int) ≤ (b.length : Int) from ⟨hbl, hqre.out, by omega, by omega, by omega⟩)
                (repeat' (first | (with_reducible refine Cend.go ?_) | (with_reducible refine Step.mk True.intro ?_) | (with_reducible refine Step.mk ?_ ?_; focus (((try simp only [true_and, and_true, and_self, kmin, kmax, decide_eq_true_eq, decide_eq_false_iff_not, castD_self, castL_self, List.length_cons, List.length_nil, List.length_append, Int.natCast_add] at *) <;> omega))) | (with_reducible refine Step.mk ?_ ?_) | (with_reducible refine Way.t1 ?_) | (with_reducible refine Way.f1 ?_) | ((with_reducible refine Way.dec (fun zz => ?_) (fun zz => ?_)) <;> (try simp only [castD_self, castL_self] at zz) <;> try (exfalso; first | omega | contradiction)) | (with_reducible refine Way.nt ?_) | ((with_reducible refine Way.mk (fun _ => ?_) (fun _ => ?_)) <;> try (exfalso; rename_i hw; first | exact Bool.noConfusion ((Go.RowKit.Hid.out k1n).symm.trans hw) | exact Bool.noConfusion (hw.symm.trans (Go.RowKit.Hid.out k1n)) | exact Bool.noConfusion ((Go.RowKit.Hid.out k1n).symm.trans hw) | exact Bool.noConfusion (hw.symm.trans (Go.RowKit.Hid.out k1n)) | exact Bool.noConfusion ((Go.RowKit.Hid.out r5).symm.trans hw) | exact Bool.noConfusion (hw.symm.trans (Go.RowKit.Hid.out r5)))) | (with_reducible refine Drawn.mk (by kernel_rfl) ?_) | (refine Run.mk ?_)))
                all_goals first | exact ⟨hpre.out, hqre.out⟩ | exact hvp.out | exact hvq.out | skip
                refine Back.by (z + 1, o, ((c ++ (vT b p (z : Int) ((z : Int) - (k : Int) + 1).toNat (k : Int))) ++ [b.getD ((z : Int)).toNat Ty.str.dflt]), false) ?_ ?_ ?_
                · (refine Wk.ren [(92, 138)] rfl ?_ ?_ <;> repeat' (first | exact True.intro | refine And.intro rfl ?_ | refine And.intro (congrArg (fun z : Int => AV.v false [Lf.d (.int .i64) z]) (by first | omega | (simp only [Int.natCast_add, List.length_cons, List.length_append, List.length_nil]; omega))) ?_ | refine And.intro ?_ ?_))
                · refine ⟨by omega, (by dsimp only; rw [hbk.out]; exact hr.out), ?_, ?_, Iff.intro (fun z => by cases z) (fun z => by omega)⟩
                  · show (o).length ≤ 2 * (z + 1)
                    omega
                  · show (((c ++ (vT b p (z : Int) ((z : Int) - (k : Int) + 1).toNat (k : Int))) ++ [b.getD ((z : Int)).toNat Ty.str.dflt])).length ≤ 20000 * (z + 1)
                    rw [List.length_append, List.length_singleton]; have := lA; have := lB; rw [List.length_append]; omega
                · show b.length + 1 - (z + 1) < b.length + 1 - k; omega
              · have hr := r7 (by omega)
                rw [if_pos (.inl k1)] at hr
                replace hr := Lib.hid hr
                clear r6 r7
                have hvp := Lib.hid (show b.length ≤ 120 ∧ ((∀ h ∈ p, HkOk h) ∧ p.length ≤ 130) ∧ (0 : Int) ≤ (k : Int) ∧ (k : Int) ≤ (z : Int) ∧ (z : Int) ≤ (b.length : Int) from ⟨hbl, hpre.out, by omega, by omega, by omega⟩)
                have hvq := Lib.hid (show b.length ≤ 120 ∧ ((∀ h ∈ q, HkOk h) ∧ q.length ≤ 130) ∧ (0 : Int) ≤ (k : Int) ∧ (k : Int) ≤ (z : Int) ∧ (z : Int) ≤ (b.length : Int) from ⟨hbl, hqre.out, by omega, by omega, by omega⟩)
                (repeat' (first | (with_reducible refine Cend.go ?_) | (with_reducible refine Step.mk True.intro ?_) | (with_reducible refine Step.mk ?_ ?_; focus (((try simp only [true_and, and_true, and_self, kmin, kmax, decide_eq_true_eq, decide_eq_false_iff_not, castD_self, castL_self, List.length_cons, List.length_nil, List.length_append, Int.natCast_add] at *) <;> omega))) | (with_reducible refine Step.mk ?_ ?_) | (with_reducible refine Way.t1 ?_) | (with_reducible refine Way.f1 ?_) | ((with_reducible refine Way.dec (fun zz => ?_) (fun zz => ?_)) <;> (try simp only [castD_self, castL_self] at zz) <;> try (exfalso; first | omega | contradiction)) | (with_reducible refine Way.nt ?_) | ((with_reducible refine Way.mk (fun _ => ?_) (fun _ => ?_)) <;> try (exfalso; rename_i hw; first | exact Bool.noConfusion ((Go.RowKit.Hid.out k1n).symm.trans hw) | exact Bool.noConfusion (hw.symm.trans (Go.RowKit.Hid.out k1n)) | exact Bool.noConfusion ((Go.RowKit.Hid.out k1n).symm.trans hw) | exact Bool.noConfusion (hw.symm.trans (Go.RowKit.Hid.out k1n)) | exact Bool.noConfusion ((Go.RowKit.Hid.out r5).symm.trans hw) | exact Bool.noConfusion (hw.symm.trans (Go.RowKit.Hid.out r5)))) | (with_reducible refine Drawn.mk (by kernel_rfl) ?_) | (refine Run.mk ?_)))
                all_goals first | exact ⟨hpre.out, hqre.out⟩ | exact hvp.out | exact hvq.out | skip
                refine Back.by (z + 1, o, (c ++ (vT b p (z : Int) ((z : Int) - (k : Int) + 1).toNat (k : Int))), true) ?_ ?_ ?_
                · refine (Wk.freeze (hl' := [.put 7 (.box 25 [.d (.int .i64) 0, .d (.int .i64) 0]), .put 10 (.box 44 [.d (.slice tHk) p]), .put 11 (.box 44 [.d (.slice tHk) q]), .put 91 (.row 40 tCh o)]) 14 104 rfl rfl (by repeat (first | exact True.intro | refine And.intro rfl ?_)) rfl).trans ?_
                  (refine Wk.keep ?_ ?_ <;> repeat' (first | exact True.intro | refine And.intro rfl ?_ | refine And.intro (congrArg (fun z : Int => AV.v false [Lf.d (.int .i64) z]) (by first | omega | (simp only [Int.natCast_add, List.length_cons, List.length_append, List.length_nil]; omega))) ?_ | refine And.intro ?_ ?_))
                · refine ⟨by omega, hr.out, ?_, ?_, Iff.intro (fun _ => by omega) (fun _ => rfl)⟩
                  · show (o).length ≤ 2 * (z + 1)
                    omega
                  · show ((c ++ (vT b p (z : Int) ((z : Int) - (k : Int) + 1).toNat (k : Int)))).length ≤ 20000 * (z + 1)
                    have := lA; have := lB; rw [List.length_append]; omega
                · show b.length + 1 - (z + 1) < b.length + 1 - k; omega
          · have k1n := Lib.hid k1
            by_cases k2 : (vT b p (hi : Int) ((hi : Int) - (k : Int) + 1).toNat (k : Int)) = (vT b q (hi : Int) ((hi : Int) - (k : Int) + 1).toNat (k : Int))
            · (repeat' (first | (with_reducible refine Cend.go ?_) | (with_reducible refine Step.mk True.intro ?_) | (with_reducible refine Step.mk ?_ ?_; focus (((try simp only [true_and, and_true, and_self, kmin, kmax, decide_eq_true_eq, decide_eq_false_iff_not, castD_self, castL_self, List.length_cons, List.length_nil, List.length_append, Int.natCast_add] at *) <;> omega))) | (with_reducible refine Step.mk ?_ ?_) | (with_reducible refine Way.t1 ?_) | (with_reducible refine Way.f1 ?_) | ((with_reducible refine Way.dec (fun zz => ?_) (fun zz => ?_)) <;> (try simp only [castD_self, castL_self] at zz) <;> try (exfalso; first | omega | contradiction)) | (with_reducible refine Way.nt ?_) | ((with_reducible refine Way.mk (fun _ => ?_) (fun _ => ?_)) <;> try (exfalso; rename_i hw; first | exact Bool.noConfusion ((Go.RowKit.Hid.out hg).symm.trans hw) | exact Bool.noConfusion (hw.symm.trans (Go.RowKit.Hid.out hg)))) | (with_reducible refine Drawn.mk (by kernel_rfl) ?_) | (refine Run.mk ?_)))
              refine loop_by (X := Nat) (fun z => [.put 0 (.v false [.d (.slice .str) b]), .put 7 (.v false [.p 7 0]), .put 10 (.v false [.p 10 0]), .put 11 (.v false [.p 11 0]), .put 12 (.v false [.d (.slice (.int .i64)) (mkG b.length (p ++ q))]), .put 13 (.v false [.o 91]), .put 14 (.v false [.o 92]), .put 15 (.v false [.d (.int .i64) (z : Int)]), .put 16 (.v false [.d (.int .i64) (k : Int)])]) (fun z => [.put 7 (.box 25 [.d (.int .i64) 0, .d (.int .i64) 0]), .put 10 (.box 44 [.d (.slice tHk) p]), .put 11 (.box 44 [.d (.slice tHk) q]), .put 91 (.row 40 tCh o), .put 92 (.row 9 .str c)]) (fun z => k ≤ z ∧ z ≤ hi) (fun z => hi - z) k ⟨Nat.le_refl _, r2⟩ ?_ ?_
              · (refine Wk.keep ?_ ?_ <;> repeat' (first | exact True.intro | refine And.intro rfl ?_ | refine And.intro (congrArg (fun z : Int => AV.v false [Lf.d (.int .i64) z]) (by first | omega | (simp only [Int.natCast_add, List.length_cons, List.length_append, List.length_nil]; omega))) ?_ | refine And.intro ?_ ?_))
              rintro z ⟨hz1, hz2⟩
              (try dsimp only at hz1 hz2 ⊢)
              by_cases hzt : z < hi
              · have hcz := hcv.out z hz1 hzt
                replace hcz := Lib.hid hcz
                (repeat' (first | (with_reducible refine Cend.go ?_) | (with_reducible refine Step.mk True.intro ?_) | (with_reducible refine Step.mk ?_ ?_; focus (((try simp only [true_and, and_true, and_self, kmin, kmax, decide_eq_true_eq, decide_eq_false_iff_not, castD_self, castL_self, List.length_cons, List.length_nil, List.length_append, Int.natCast_add] at *) <;> omega))) | (with_reducible refine Step.mk ?_ ?_) | (with_reducible refine Way.t1 ?_) | (with_reducible refine Way.f1 ?_) | ((with_reducible refine Way.dec (fun zz => ?_) (fun zz => ?_)) <;> (try simp only [castD_self, castL_self] at zz) <;> try (exfalso; first | omega | contradiction)) | (with_reducible refine Way.nt ?_) | ((with_reducible refine Way.mk (fun _ => ?_) (fun _ => ?_)) <;> try (exfalso; rename_i hw; first | exact Bool.noConfusion ((Go.RowKit.Hid.out hcz).symm.trans hw) | exact Bool.noConfusion (hw.symm.trans (Go.RowKit.Hid.out hcz)))) | (with_reducible refine Drawn.mk (by kernel_rfl) ?_) | (refine Run.mk ?_)))
                · exact ⟨hpre.out, hqre.out⟩
                refine Back.by (z + 1) ?_ ?_ ?_
                · (refine Wk.keep ?_ ?_ <;> repeat' (first | exact True.intro | refine And.intro rfl ?_ | refine And.intro (congrArg (fun z : Int => AV.v false [Lf.d (.int .i64) z]) (by first | omega | (simp only [Int.natCast_add, List.length_cons, List.length_append, List.length_nil]; omega))) ?_ | refine And.intro ?_ ?_))
                · exact ⟨by omega, by omega⟩
                · show hi - (z + 1) < hi - z; omega
              · obtain rfl : z = hi := by omega
                by_cases hin : z < b.length
                · have hr := r6 hin
                  rw [if_pos (.inr k2)] at hr
                  rw [plF_stM] at hr
                  replace hr := Lib.hid hr
                  clear r6 r7
                  have hvp := Lib.hid (show b.length ≤ 120 ∧ ((∀ h ∈ p, HkOk h) ∧ p.length ≤ 130) ∧ (0 : Int) ≤ (k : Int) ∧ (k : Int) ≤ (z : Int) ∧ (z : Int) ≤ (b.length : Int) from ⟨hbl, hpre.out, by omega, by omega, by omega⟩)
                  have hvq := Lib.hid (show b.length ≤ 120 ∧ ((∀ h ∈ q, HkOk h) ∧ q.length ≤ 130) ∧ (0 : Int) ≤ (k : Int) ∧ (k : Int) ≤ (z : Int) ∧ (z : Int) ≤ (b.length : Int) from ⟨hbl, hqre.out, by omega, by omega, by omega⟩)
                  (repeat' (first | (with_reducible refine Cend.go ?_) | (with_reducible refine Step.mk True.intro ?_) | (with_reducible refine Step.mk ?_ ?_; focus (((try simp only [true_and, and_true, and_self, kmin, kmax, decide_eq_true_eq, decide_eq_false_iff_not, castD_self, castL_self, List.length_cons, List.length_nil, List.length_append, Int.natCast_add] at *) <;> omega))) | (with_reducible refine Step.mk ?_ ?_) | (with_reducible refine Way.t1 ?_) | (with_reducible refine Way.f1 ?_) | ((with_reducible refine Way.dec (fun zz => ?_) (fun zz => ?_)) <;> (try simp only [castD_self, castL_self] at zz) <;> try (exfalso; first | omega | contradiction)) | (with_reducible refine Way.nt ?_) | ((with_reducible refine Way.mk (fun _ => ?_) (fun _ => ?_)) <;> try (exfalso; rename_i hw; first | exact Bool.noConfusion ((Go.RowKit.Hid.out k1n).symm.trans hw) | exact Bool.noConfusion (hw.symm.trans (Go.RowKit.Hid.out k1n)) | exact Bool.noConfusion ((Go.RowKit.Hid.out k1n).symm.trans hw) | exact Bool.noConfusion (hw.symm.trans (Go.RowKit.Hid.out k1n)) | exact Bool.noConfusion ((Go.RowKit.Hid.out r5).symm.trans hw) | exact Bool.noConfusion (hw.symm.trans (Go.RowKit.Hid.out r5)))) | (with_reducible refine Drawn.mk (by kernel_rfl) ?_) | (refine Run.mk ?_)))
                  all_goals first | exact ⟨hpre.out, hqre.out⟩ | exact hvp.out | exact hvq.out | skip
                  refine Back.by (z + 1, o, ((c ++ (vT b p (z : Int) ((z : Int) - (k : Int) + 1).toNat (k : Int))) ++ [b.getD ((z : Int)).toNat Ty.str.dflt]), false) ?_ ?_ ?_
                  · (refine Wk.ren [(92, 138)] rfl ?_ ?_ <;> repeat' (first | exact True.intro | refine And.intro rfl ?_ | refine And.intro (congrArg (fun z : Int => AV.v false [Lf.d (.int .i64) z]) (by first | omega | (simp only [Int.natCast_add, List.length_cons, List.length_append, List.length_nil]; omega))) ?_ | refine And.intro ?_ ?_))
                  · refine ⟨by omega, (by dsimp only; rw [hbk.out]; exact hr.out), ?_, ?_, Iff.intro (fun z => by cases z) (fun z => by omega)⟩
                    · show (o).length ≤ 2 * (z + 1)
                      omega
                    · show (((c ++ (vT b p (z : Int) ((z : Int) - (k : Int) + 1).toNat (k : Int))) ++ [b.getD ((z : Int)).toNat Ty.str.dflt])).length ≤ 20000 * (z + 1)
                      rw [List.length_append, List.length_singleton]; have := lA; have := lB; rw [List.length_append]; omega
                  · show b.length + 1 - (z + 1) < b.length + 1 - k; omega
                · have hr := r7 (by omega)
                  rw [if_pos (.inr k2)] at hr
                  replace hr := Lib.hid hr
                  clear r6 r7
                  have hvp := Lib.hid (show b.length ≤ 120 ∧ ((∀ h ∈ p, HkOk h) ∧ p.length ≤ 130) ∧ (0 : Int) ≤ (k : Int) ∧ (k : Int) ≤ (z : Int) ∧ (z : Int) ≤ (b.length : Int) from ⟨hbl, hpre.out, by omega, by omega, by omega⟩)
                  have hvq := Lib.hid (show b.length ≤ 120 ∧ ((∀ h ∈ q, HkOk h) ∧ q.length ≤ 130) ∧ (0 : Int) ≤ (k : Int) ∧ (k : Int) ≤ (z : Int) ∧ (z : Int) ≤ (b.length : Int) from ⟨hbl, hqre.out, by omega, by omega, by omega⟩)
                  (repeat' (first | (with_reducible refine Cend.go ?_) | (with_reducible refine Step.mk True.intro ?_) | (with_reducible refine Step.mk ?_ ?_; focus (((try simp only [true_and, and_true, and_self, kmin, kmax, decide_eq_true_eq, decide_eq_false_iff_not, castD_self, castL_self, List.length_cons, List.length_nil, List.length_append, Int.natCast_add] at *) <;> omega))) | (with_reducible refine Step.mk ?_ ?_) | (with_reducible refine Way.t1 ?_) | (with_reducible refine Way.f1 ?_) | ((with_reducible refine Way.dec (fun zz => ?_) (fun zz => ?_)) <;> (try simp only [castD_self, castL_self] at zz) <;> try (exfalso; first | omega | contradiction)) | (with_reducible refine Way.nt ?_) | ((with_reducible refine Way.mk (fun _ => ?_) (fun _ => ?_)) <;> try (exfalso; rename_i hw; first | exact Bool.noConfusion ((Go.RowKit.Hid.out k1n).symm.trans hw) | exact Bool.noConfusion (hw.symm.trans (Go.RowKit.Hid.out k1n)) | exact Bool.noConfusion ((Go.RowKit.Hid.out k1n).symm.trans hw) | exact Bool.noConfusion (hw.symm.trans (Go.RowKit.Hid.out k1n)) | exact Bool.noConfusion ((Go.RowKit.Hid.out r5).symm.trans hw) | exact Bool.noConfusion (hw.symm.trans (Go.RowKit.Hid.out r5)))) | (with_reducible refine Drawn.mk (by kernel_rfl) ?_) | (refine Run.mk ?_)))
                  all_goals first | exact ⟨hpre.out, hqre.out⟩ | exact hvp.out | exact hvq.out | skip
                  refine Back.by (z + 1, o, (c ++ (vT b p (z : Int) ((z : Int) - (k : Int) + 1).toNat (k : Int))), true) ?_ ?_ ?_
                  · refine (Wk.freeze (hl' := [.put 7 (.box 25 [.d (.int .i64) 0, .d (.int .i64) 0]), .put 10 (.box 44 [.d (.slice tHk) p]), .put 11 (.box 44 [.d (.slice tHk) q]), .put 91 (.row 40 tCh o)]) 14 104 rfl rfl (by repeat (first | exact True.intro | refine And.intro rfl ?_)) rfl).trans ?_
                    (refine Wk.keep ?_ ?_ <;> repeat' (first | exact True.intro | refine And.intro rfl ?_ | refine And.intro (congrArg (fun z : Int => AV.v false [Lf.d (.int .i64) z]) (by first | omega | (simp only [Int.natCast_add, List.length_cons, List.length_append, List.length_nil]; omega))) ?_ | refine And.intro ?_ ?_))
                  · refine ⟨by omega, hr.out, ?_, ?_, Iff.intro (fun _ => by omega) (fun _ => rfl)⟩
                    · show (o).length ≤ 2 * (z + 1)
                      omega
                    · show ((c ++ (vT b p (z : Int) ((z : Int) - (k : Int) + 1).toNat (k : Int)))).length ≤ 20000 * (z + 1)
                      have := lA; have := lB; rw [List.length_append]; omega
                  · show b.length + 1 - (z + 1) < b.length + 1 - k; omega
            · cases k3 : vA p (k : Int) ((hi : Int) + 1)
              · have k3n := Lib.hid k3
                (repeat' (first | (with_reducible refine Cend.go ?_) | (with_reducible refine Step.mk True.intro ?_) | (with_reducible refine Step.mk ?_ ?_; focus (((try simp only [true_and, and_true, and_self, kmin, kmax, decide_eq_true_eq, decide_eq_false_iff_not, castD_self, castL_self, List.length_cons, List.length_nil, List.length_append, Int.natCast_add] at *) <;> omega))) | (with_reducible refine Step.mk ?_ ?_) | (with_reducible refine Way.t1 ?_) | (with_reducible refine Way.f1 ?_) | ((with_reducible refine Way.dec (fun zz => ?_) (fun zz => ?_)) <;> (try simp only [castD_self, castL_self] at zz) <;> try (exfalso; first | omega | contradiction)) | (with_reducible refine Way.nt ?_) | ((with_reducible refine Way.mk (fun _ => ?_) (fun _ => ?_)) <;> try (exfalso; rename_i hw; first | exact Bool.noConfusion ((Go.RowKit.Hid.out hg).symm.trans hw) | exact Bool.noConfusion (hw.symm.trans (Go.RowKit.Hid.out hg)))) | (with_reducible refine Drawn.mk (by kernel_rfl) ?_) | (refine Run.mk ?_)))
                refine loop_by (X := Nat) (fun z => [.put 0 (.v false [.d (.slice .str) b]), .put 7 (.v false [.p 7 0]), .put 10 (.v false [.p 10 0]), .put 11 (.v false [.p 11 0]), .put 12 (.v false [.d (.slice (.int .i64)) (mkG b.length (p ++ q))]), .put 13 (.v false [.o 91]), .put 14 (.v false [.o 92]), .put 15 (.v false [.d (.int .i64) (z : Int)]), .put 16 (.v false [.d (.int .i64) (k : Int)])]) (fun z => [.put 7 (.box 25 [.d (.int .i64) 0, .d (.int .i64) 0]), .put 10 (.box 44 [.d (.slice tHk) p]), .put 11 (.box 44 [.d (.slice tHk) q]), .put 91 (.row 40 tCh o), .put 92 (.row 9 .str c)]) (fun z => k ≤ z ∧ z ≤ hi) (fun z => hi - z) k ⟨Nat.le_refl _, r2⟩ ?_ ?_
                · (refine Wk.keep ?_ ?_ <;> repeat' (first | exact True.intro | refine And.intro rfl ?_ | refine And.intro (congrArg (fun z : Int => AV.v false [Lf.d (.int .i64) z]) (by first | omega | (simp only [Int.natCast_add, List.length_cons, List.length_append, List.length_nil]; omega))) ?_ | refine And.intro ?_ ?_))
                rintro z ⟨hz1, hz2⟩
                (try dsimp only at hz1 hz2 ⊢)
                by_cases hzt : z < hi
                · have hcz := hcv.out z hz1 hzt
                  replace hcz := Lib.hid hcz
                  (repeat' (first | (with_reducible refine Cend.go ?_) | (with_reducible refine Step.mk True.intro ?_) | (with_reducible refine Step.mk ?_ ?_; focus (((try simp only [true_and, and_true, and_self, kmin, kmax, decide_eq_true_eq, decide_eq_false_iff_not, castD_self, castL_self, List.length_cons, List.length_nil, List.length_append, Int.natCast_add] at *) <;> omega))) | (with_reducible refine Step.mk ?_ ?_) | (with_reducible refine Way.t1 ?_) | (with_reducible refine Way.f1 ?_) | ((with_reducible refine Way.dec (fun zz => ?_) (fun zz => ?_)) <;> (try simp only [castD_self, castL_self] at zz) <;> try (exfalso; first | omega | contradiction)) | (with_reducible refine Way.nt ?_) | ((with_reducible refine Way.mk (fun _ => ?_) (fun _ => ?_)) <;> try (exfalso; rename_i hw; first | exact Bool.noConfusion ((Go.RowKit.Hid.out hcz).symm.trans hw) | exact Bool.noConfusion (hw.symm.trans (Go.RowKit.Hid.out hcz)))) | (with_reducible refine Drawn.mk (by kernel_rfl) ?_) | (refine Run.mk ?_)))
                  · exact ⟨hpre.out, hqre.out⟩
                  refine Back.by (z + 1) ?_ ?_ ?_
                  · (refine Wk.keep ?_ ?_ <;> repeat' (first | exact True.intro | refine And.intro rfl ?_ | refine And.intro (congrArg (fun z : Int => AV.v false [Lf.d (.int .i64) z]) (by first | omega | (simp only [Int.natCast_add, List.length_cons, List.length_append, List.length_nil]; omega))) ?_ | refine And.intro ?_ ?_))
                  · exact ⟨by omega, by omega⟩
                  · show hi - (z + 1) < hi - z; omega
                · obtain rfl : z = hi := by omega
                  by_cases hin : z < b.length
                  · have hr := r6 hin
                    rw [if_neg (fun z => z.elim (fun z => by rw [k1] at z; cases z) k2), if_pos k3] at hr
                    rw [plF_stM] at hr
                    replace hr := Lib.hid hr
                    clear r6 r7
                    have hvp := Lib.hid (show b.length ≤ 120 ∧ ((∀ h ∈ p, HkOk h) ∧ p.length ≤ 130) ∧ (0 : Int) ≤ (k : Int) ∧ (k : Int) ≤ (z : Int) ∧ (z : Int) ≤ (b.length : Int) from ⟨hbl, hpre.out, by omega, by omega, by omega⟩)
                    have hvq := Lib.hid (show b.length ≤ 120 ∧ ((∀ h ∈ q, HkOk h) ∧ q.length ≤ 130) ∧ (0 : Int) ≤ (k : Int) ∧ (k : Int) ≤ (z : Int) ∧ (z : Int) ≤ (b.length : Int) from ⟨hbl, hqre.out, by omega, by omega, by omega⟩)
                    (repeat' (first | (with_reducible refine Cend.go ?_) | (with_reducible refine Step.mk True.intro ?_) | (with_reducible refine Step.mk ?_ ?_; focus (((try simp only [true_and, and_true, and_self, kmin, kmax, decide_eq_true_eq, decide_eq_false_iff_not, castD_self, castL_self, List.length_cons, List.length_nil, List.length_append, Int.natCast_add] at *) <;> omega))) | (with_reducible refine Step.mk ?_ ?_) | (with_reducible refine Way.t1 ?_) | (with_reducible refine Way.f1 ?_) | ((with_reducible refine Way.dec (fun zz => ?_) (fun zz => ?_)) <;> (try simp only [castD_self, castL_self] at zz) <;> try (exfalso; first | omega | contradiction)) | (with_reducible refine Way.nt ?_) | ((with_reducible refine Way.mk (fun _ => ?_) (fun _ => ?_)) <;> try (exfalso; rename_i hw; first | exact Bool.noConfusion ((Go.RowKit.Hid.out k1n).symm.trans hw) | exact Bool.noConfusion (hw.symm.trans (Go.RowKit.Hid.out k1n)) | exact Bool.noConfusion ((Go.RowKit.Hid.out k3n).symm.trans hw) | exact Bool.noConfusion (hw.symm.trans (Go.RowKit.Hid.out k3n)) | exact Bool.noConfusion ((Go.RowKit.Hid.out r5).symm.trans hw) | exact Bool.noConfusion (hw.symm.trans (Go.RowKit.Hid.out r5)))) | (with_reducible refine Drawn.mk (by kernel_rfl) ?_) | (refine Run.mk ?_)))
                    all_goals first | exact ⟨hpre.out, hqre.out⟩ | exact hvp.out | exact hvq.out | skip
                    refine Back.by (z + 1, o, ((c ++ (vT b q (z : Int) ((z : Int) - (k : Int) + 1).toNat (k : Int))) ++ [b.getD ((z : Int)).toNat Ty.str.dflt]), false) ?_ ?_ ?_
                    · (refine Wk.ren [(92, 138)] rfl ?_ ?_ <;> repeat' (first | exact True.intro | refine And.intro rfl ?_ | refine And.intro (congrArg (fun z : Int => AV.v false [Lf.d (.int .i64) z]) (by first | omega | (simp only [Int.natCast_add, List.length_cons, List.length_append, List.length_nil]; omega))) ?_ | refine And.intro ?_ ?_))
                    · refine ⟨by omega, (by dsimp only; rw [hbk.out]; exact hr.out), ?_, ?_, Iff.intro (fun z => by cases z) (fun z => by omega)⟩
                      · show (o).length ≤ 2 * (z + 1)
                        omega
                      · show (((c ++ (vT b q (z : Int) ((z : Int) - (k : Int) + 1).toNat (k : Int))) ++ [b.getD ((z : Int)).toNat Ty.str.dflt])).length ≤ 20000 * (z + 1)
                        rw [List.length_append, List.length_singleton]; have := lA; have := lB; rw [List.length_append]; omega
                    · show b.length + 1 - (z + 1) < b.length + 1 - k; omega
                  · have hr := r7 (by omega)
                    rw [if_neg (fun z => z.elim (fun z => by rw [k1] at z; cases z) k2), if_pos k3] at hr
                    replace hr := Lib.hid hr
                    clear r6 r7
                    have hvp := Lib.hid (show b.length ≤ 120 ∧ ((∀ h ∈ p, HkOk h) ∧ p.length ≤ 130) ∧ (0 : Int) ≤ (k : Int) ∧ (k : Int) ≤ (z : Int) ∧ (z : Int) ≤ (b.length : Int) from ⟨hbl, hpre.out, by omega, by omega, by omega⟩)
                    have hvq := Lib.hid (show b.length ≤ 120 ∧ ((∀ h ∈ q, HkOk h) ∧ q.length ≤ 130) ∧ (0 : Int) ≤ (k : Int) ∧ (k : Int) ≤ (z : Int) ∧ (z : Int) ≤ (b.length : Int) from ⟨hbl, hqre.out, by omega, by omega, by omega⟩)
                    (repeat' (first | (with_reducible refine Cend.go ?_) | (with_reducible refine Step.mk True.intro ?_) | (with_reducible refine Step.mk ?_ ?_; focus (((try simp only [true_and, and_true, and_self, kmin, kmax, decide_eq_true_eq, decide_eq_false_iff_not, castD_self, castL_self, List.length_cons, List.length_nil, List.length_append, Int.natCast_add] at *) <;> omega))) | (with_reducible refine Step.mk ?_ ?_) | (with_reducible refine Way.t1 ?_) | (with_reducible refine Way.f1 ?_) | ((with_reducible refine Way.dec (fun zz => ?_) (fun zz => ?_)) <;> (try simp only [castD_self, castL_self] at zz) <;> try (exfalso; first | omega | contradiction)) | (with_reducible refine Way.nt ?_) | ((with_reducible refine Way.mk (fun _ => ?_) (fun _ => ?_)) <;> try (exfalso; rename_i hw; first | exact Bool.noConfusion ((Go.RowKit.Hid.out k1n).symm.trans hw) | exact Bool.noConfusion (hw.symm.trans (Go.RowKit.Hid.out k1n)) | exact Bool.noConfusion ((Go.RowKit.Hid.out k3n).symm.trans hw) | exact Bool.noConfusion (hw.symm.trans (Go.RowKit.Hid.out k3n)) | exact Bool.noConfusion ((Go.RowKit.Hid.out r5).symm.trans hw) | exact Bool.noConfusion (hw.symm.trans (Go.RowKit.Hid.out r5)))) | (with_reducible refine Drawn.mk (by kernel_rfl) ?_) | (refine Run.mk ?_)))
                    all_goals first | exact ⟨hpre.out, hqre.out⟩ | exact hvp.out | exact hvq.out | skip
                    refine Back.by (z + 1, o, (c ++ (vT b q (z : Int) ((z : Int) - (k : Int) + 1).toNat (k : Int))), true) ?_ ?_ ?_
                    · refine (Wk.freeze (hl' := [.put 7 (.box 25 [.d (.int .i64) 0, .d (.int .i64) 0]), .put 10 (.box 44 [.d (.slice tHk) p]), .put 11 (.box 44 [.d (.slice tHk) q]), .put 91 (.row 40 tCh o)]) 14 109 rfl rfl (by repeat (first | exact True.intro | refine And.intro rfl ?_)) rfl).trans ?_
                      (refine Wk.keep ?_ ?_ <;> repeat' (first | exact True.intro | refine And.intro rfl ?_ | refine And.intro (congrArg (fun z : Int => AV.v false [Lf.d (.int .i64) z]) (by first | omega | (simp only [Int.natCast_add, List.length_cons, List.length_append, List.length_nil]; omega))) ?_ | refine And.intro ?_ ?_))
                    · refine ⟨by omega, hr.out, ?_, ?_, Iff.intro (fun _ => by omega) (fun _ => rfl)⟩
                      · show (o).length ≤ 2 * (z + 1)
                        omega
                      · show ((c ++ (vT b q (z : Int) ((z : Int) - (k : Int) + 1).toNat (k : Int)))).length ≤ 20000 * (z + 1)
                        have := lA; have := lB; rw [List.length_append]; omega
                    · show b.length + 1 - (z + 1) < b.length + 1 - k; omega
              · have k3n := Lib.hid k3
                by_cases k4 : 0 < c.length
                · (repeat' (first | (with_reducible refine Cend.go ?_) | (with_reducible refine Step.mk True.intro ?_) | (with_reducible refine Step.mk ?_ ?_; focus (((try simp only [true_and, and_true, and_self, kmin, kmax, decide_eq_true_eq, decide_eq_false_iff_not, castD_self, castL_self, List.length_cons, List.length_nil, List.length_append, Int.natCast_add] at *) <;> omega))) | (with_reducible refine Step.mk ?_ ?_) | (with_reducible refine Way.t1 ?_) | (with_reducible refine Way.f1 ?_) | ((with_reducible refine Way.dec (fun zz => ?_) (fun zz => ?_)) <;> (try simp only [castD_self, castL_self] at zz) <;> try (exfalso; first | omega | contradiction)) | (with_reducible refine Way.nt ?_) | ((with_reducible refine Way.mk (fun _ => ?_) (fun _ => ?_)) <;> try (exfalso; rename_i hw; first | exact Bool.noConfusion ((Go.RowKit.Hid.out hg).symm.trans hw) | exact Bool.noConfusion (hw.symm.trans (Go.RowKit.Hid.out hg)))) | (with_reducible refine Drawn.mk (by kernel_rfl) ?_) | (refine Run.mk ?_)))
                  refine loop_by (X := Nat) (fun z => [.put 0 (.v false [.d (.slice .str) b]), .put 7 (.v false [.p 7 0]), .put 10 (.v false [.p 10 0]), .put 11 (.v false [.p 11 0]), .put 12 (.v false [.d (.slice (.int .i64)) (mkG b.length (p ++ q))]), .put 13 (.v false [.o 91]), .put 14 (.v false [.d (.slice .str) c]), .put 15 (.v false [.d (.int .i64) (z : Int)]), .put 16 (.v false [.d (.int .i64) (k : Int)])]) (fun z => [.put 7 (.box 25 [.d (.int .i64) 0, .d (.int .i64) 0]), .put 10 (.box 44 [.d (.slice tHk) p]), .put 11 (.box 44 [.d (.slice tHk) q]), .put 91 (.row 40 tCh o)]) (fun z => k ≤ z ∧ z ≤ hi) (fun z => hi - z) k ⟨Nat.le_refl _, r2⟩ ?_ ?_
                  · refine (Wk.freeze (hl' := [.put 7 (.box 25 [.d (.int .i64) 0, .d (.int .i64) 0]), .put 10 (.box 44 [.d (.slice tHk) p]), .put 11 (.box 44 [.d (.slice tHk) q]), .put 91 (.row 40 tCh o)]) 14 92 rfl rfl (by repeat (first | exact True.intro | refine And.intro rfl ?_)) rfl).trans ?_
                    (refine Wk.keep ?_ ?_ <;> repeat' (first | exact True.intro | refine And.intro rfl ?_ | refine And.intro (congrArg (fun z : Int => AV.v false [Lf.d (.int .i64) z]) (by first | omega | (simp only [Int.natCast_add, List.length_cons, List.length_append, List.length_nil]; omega))) ?_ | refine And.intro ?_ ?_))
                  rintro z ⟨hz1, hz2⟩
                  (try dsimp only at hz1 hz2 ⊢)
                  by_cases hzt : z < hi
                  · have hcz := hcv.out z hz1 hzt
                    replace hcz := Lib.hid hcz
                    (repeat' (first | (with_reducible refine Cend.go ?_) | (with_reducible refine Step.mk True.intro ?_) | (with_reducible refine Step.mk ?_ ?_; focus (((try simp only [true_and, and_true, and_self, kmin, kmax, decide_eq_true_eq, decide_eq_false_iff_not, castD_self, castL_self, List.length_cons, List.length_nil, List.length_append, Int.natCast_add] at *) <;> omega))) | (with_reducible refine Step.mk ?_ ?_) | (with_reducible refine Way.t1 ?_) | (with_reducible refine Way.f1 ?_) | ((with_reducible refine Way.dec (fun zz => ?_) (fun zz => ?_)) <;> (try simp only [castD_self, castL_self] at zz) <;> try (exfalso; first | omega | contradiction)) | (with_reducible refine Way.nt ?_) | ((with_reducible refine Way.mk (fun _ => ?_) (fun _ => ?_)) <;> try (exfalso; rename_i hw; first | exact Bool.noConfusion ((Go.RowKit.Hid.out hcz).symm.trans hw) | exact Bool.noConfusion (hw.symm.trans (Go.RowKit.Hid.out hcz)))) | (with_reducible refine Drawn.mk (by kernel_rfl) ?_) | (refine Run.mk ?_)))
                    · exact ⟨hpre.out, hqre.out⟩
                    refine Back.by (z + 1) ?_ ?_ ?_
                    · (refine Wk.keep ?_ ?_ <;> repeat' (first | exact True.intro | refine And.intro rfl ?_ | refine And.intro (congrArg (fun z : Int => AV.v false [Lf.d (.int .i64) z]) (by first | omega | (simp only [Int.natCast_add, List.length_cons, List.length_append, List.length_nil]; omega))) ?_ | refine And.intro ?_ ?_))
                    · exact ⟨by omega, by omega⟩
                    · show hi - (z + 1) < hi - z; omega
                  · obtain rfl : z = hi := by omega
                    by_cases hin : z < b.length
                    · have hr := r6 hin
                      rw [if_neg (fun z => z.elim (fun z => by rw [k1] at z; cases z) k2), if_neg (fun z => by rw [k3] at z; cases z), if_pos k4] at hr
                      rw [plF_stM] at hr
                      replace hr := Lib.hid hr
                      clear r6 r7
                      have hvp := Lib.hid (show b.length ≤ 120 ∧ ((∀ h ∈ p, HkOk h) ∧ p.length ≤ 130) ∧ (0 : Int) ≤ (k : Int) ∧ (k : Int) ≤ (z : Int) ∧ (z : Int) ≤ (b.length : Int) from ⟨hbl, hpre.out, by omega, by omega, by omega⟩)
                      have hvq := Lib.hid (show b.length ≤ 120 ∧ ((∀ h ∈ q, HkOk h) ∧ q.length ≤ 130) ∧ (0 : Int) ≤ (k : Int) ∧ (k : Int) ≤ (z : Int) ∧ (z : Int) ≤ (b.length : Int) from ⟨hbl, hqre.out, by omega, by omega, by omega⟩)
                      (repeat' (first | (with_reducible refine Cend.go ?_) | (with_reducible refine Step.mk True.intro ?_) | (with_reducible refine Step.mk ?_ ?_; focus (((try simp only [true_and, and_true, and_self, kmin, kmax, decide_eq_true_eq, decide_eq_false_iff_not, castD_self, castL_self, List.length_cons, List.length_nil, List.length_append, Int.natCast_add] at *) <;> omega))) | (with_reducible refine Step.mk ?_ ?_) | (with_reducible refine Way.t1 ?_) | (with_reducible refine Way.f1 ?_) | ((with_reducible refine Way.dec (fun zz => ?_) (fun zz => ?_)) <;> (try simp only [castD_self, castL_self] at zz) <;> try (exfalso; first | omega | contradiction)) | (with_reducible refine Way.nt ?_) | ((with_reducible refine Way.mk (fun _ => ?_) (fun _ => ?_)) <;> try (exfalso; rename_i hw; first | exact Bool.noConfusion ((Go.RowKit.Hid.out k1n).symm.trans hw) | exact Bool.noConfusion (hw.symm.trans (Go.RowKit.Hid.out k1n)) | exact Bool.noConfusion ((Go.RowKit.Hid.out k3n).symm.trans hw) | exact Bool.noConfusion (hw.symm.trans (Go.RowKit.Hid.out k3n)) | exact Bool.noConfusion ((Go.RowKit.Hid.out r5).symm.trans hw) | exact Bool.noConfusion (hw.symm.trans (Go.RowKit.Hid.out r5)))) | (with_reducible refine Drawn.mk (by kernel_rfl) ?_) | (refine Run.mk ?_)))
                      all_goals first | exact ⟨hpre.out, hqre.out⟩ | exact hvp.out | exact hvq.out | skip
                      refine Back.by (z + 1, ((o ++ [plCh c]) ++ [(true, [], (b.take ((z : Int)).toNat).drop ((k : Int)).toNat, (vT b p (z : Int) ((z : Int) - (k : Int) + 1).toNat (k : Int)), (vT b q (z : Int) ((z : Int) - (k : Int) + 1).toNat (k : Int)))]), (([] : List ByteArray) ++ [b.getD ((z : Int)).toNat Ty.str.dflt]), false) ?_ ?_ ?_
                      · (refine Wk.ren [(91, 127), (92, 138)] rfl ?_ ?_ <;> repeat' (first | exact True.intro | refine And.intro rfl ?_ | refine And.intro (congrArg (fun z : Int => AV.v false [Lf.d (.int .i64) z]) (by first | omega | (simp only [Int.natCast_add, List.length_cons, List.length_append, List.length_nil]; omega))) ?_ | refine And.intro ?_ ?_))
                      · refine ⟨by omega, (by dsimp only; rw [hbk.out, hsl.out]; exact hr.out), ?_, ?_, Iff.intro (fun z => by cases z) (fun z => by omega)⟩
                        · show (((o ++ [plCh c]) ++ [(true, [], (b.take ((z : Int)).toNat).drop ((k : Int)).toNat, (vT b p (z : Int) ((z : Int) - (k : Int) + 1).toNat (k : Int)), (vT b q (z : Int) ((z : Int) - (k : Int) + 1).toNat (k : Int)))])).length ≤ 2 * (z + 1)
                          rw [List.length_append, List.length_append, List.length_singleton, List.length_singleton]; omega
                        · show ((([] : List ByteArray) ++ [b.getD ((z : Int)).toNat Ty.str.dflt])).length ≤ 20000 * (z + 1)
                          rw [List.length_append, List.length_singleton]; first | exact Nat.zero_le _ | (rw [List.length_nil]; omega)
                      · show b.length + 1 - (z + 1) < b.length + 1 - k; omega
                    · have hr := r7 (by omega)
                      rw [if_neg (fun z => z.elim (fun z => by rw [k1] at z; cases z) k2), if_neg (fun z => by rw [k3] at z; cases z), if_pos k4] at hr
                      replace hr := Lib.hid hr
                      clear r6 r7
                      have hvp := Lib.hid (show b.length ≤ 120 ∧ ((∀ h ∈ p, HkOk h) ∧ p.length ≤ 130) ∧ (0 : Int) ≤ (k : Int) ∧ (k : Int) ≤ (z : Int) ∧ (z : Int) ≤ (b.length : Int) from ⟨hbl, hpre.out, by omega, by omega, by omega⟩)
                      have hvq := Lib.hid (show b.length ≤ 120 ∧ ((∀ h ∈ q, HkOk h) ∧ q.length ≤ 130) ∧ (0 : Int) ≤ (k : Int) ∧ (k : Int) ≤ (z : Int) ∧ (z : Int) ≤ (b.length : Int) from ⟨hbl, hqre.out, by omega, by omega, by omega⟩)
                      (repeat' (first | (with_reducible refine Cend.go ?_) | (with_reducible refine Step.mk True.intro ?_) | (with_reducible refine Step.mk ?_ ?_; focus (((try simp only [true_and, and_true, and_self, kmin, kmax, decide_eq_true_eq, decide_eq_false_iff_not, castD_self, castL_self, List.length_cons, List.length_nil, List.length_append, Int.natCast_add] at *) <;> omega))) | (with_reducible refine Step.mk ?_ ?_) | (with_reducible refine Way.t1 ?_) | (with_reducible refine Way.f1 ?_) | ((with_reducible refine Way.dec (fun zz => ?_) (fun zz => ?_)) <;> (try simp only [castD_self, castL_self] at zz) <;> try (exfalso; first | omega | contradiction)) | (with_reducible refine Way.nt ?_) | ((with_reducible refine Way.mk (fun _ => ?_) (fun _ => ?_)) <;> try (exfalso; rename_i hw; first | exact Bool.noConfusion ((Go.RowKit.Hid.out k1n).symm.trans hw) | exact Bool.noConfusion (hw.symm.trans (Go.RowKit.Hid.out k1n)) | exact Bool.noConfusion ((Go.RowKit.Hid.out k3n).symm.trans hw) | exact Bool.noConfusion (hw.symm.trans (Go.RowKit.Hid.out k3n)) | exact Bool.noConfusion ((Go.RowKit.Hid.out r5).symm.trans hw) | exact Bool.noConfusion (hw.symm.trans (Go.RowKit.Hid.out r5)))) | (with_reducible refine Drawn.mk (by kernel_rfl) ?_) | (refine Run.mk ?_)))
                      all_goals first | exact ⟨hpre.out, hqre.out⟩ | exact hvp.out | exact hvq.out | skip
                      refine Back.by (z + 1, ((o ++ [plCh c]) ++ [(true, [], (b.take ((z : Int)).toNat).drop ((k : Int)).toNat, (vT b p (z : Int) ((z : Int) - (k : Int) + 1).toNat (k : Int)), (vT b q (z : Int) ((z : Int) - (k : Int) + 1).toNat (k : Int)))]), ([] : List ByteArray), true) ?_ ?_ ?_
                      · refine (Wk.nilrow 14 92 9 .str rfl).trans ?_
                        refine (Wk.freeze (hl' := [.put 7 (.box 25 [.d (.int .i64) 0, .d (.int .i64) 0]), .put 10 (.box 44 [.d (.slice tHk) p]), .put 11 (.box 44 [.d (.slice tHk) q]), .put 127 (.row 40 tCh ((o ++ [plCh c]) ++ [(true, [], (b.take ((z : Int)).toNat).drop ((k : Int)).toNat, (vT b p (z : Int) ((z : Int) - (k : Int) + 1).toNat (k : Int)), (vT b q (z : Int) ((z : Int) - (k : Int) + 1).toNat (k : Int)))]))]) 14 92 rfl rfl (by repeat (first | exact True.intro | refine And.intro rfl ?_)) rfl).trans ?_
                        (refine Wk.ren [(91, 127)] rfl ?_ ?_ <;> repeat' (first | exact True.intro | refine And.intro rfl ?_ | refine And.intro (congrArg (fun z : Int => AV.v false [Lf.d (.int .i64) z]) (by first | omega | (simp only [Int.natCast_add, List.length_cons, List.length_append, List.length_nil]; omega))) ?_ | refine And.intro ?_ ?_))
                      · refine ⟨by omega, (by dsimp only; rw [hsl.out]; exact hr.out), ?_, ?_, Iff.intro (fun _ => by omega) (fun _ => rfl)⟩
                        · show (((o ++ [plCh c]) ++ [(true, [], (b.take ((z : Int)).toNat).drop ((k : Int)).toNat, (vT b p (z : Int) ((z : Int) - (k : Int) + 1).toNat (k : Int)), (vT b q (z : Int) ((z : Int) - (k : Int) + 1).toNat (k : Int)))])).length ≤ 2 * (z + 1)
                          rw [List.length_append, List.length_append, List.length_singleton, List.length_singleton]; omega
                        · show (([] : List ByteArray)).length ≤ 20000 * (z + 1)
                          first | exact Nat.zero_le _ | (rw [List.length_nil]; omega)
                      · show b.length + 1 - (z + 1) < b.length + 1 - k; omega
                · (repeat' (first | (with_reducible refine Cend.go ?_) | (with_reducible refine Step.mk True.intro ?_) | (with_reducible refine Step.mk ?_ ?_; focus (((try simp only [true_and, and_true, and_self, kmin, kmax, decide_eq_true_eq, decide_eq_false_iff_not, castD_self, castL_self, List.length_cons, List.length_nil, List.length_append, Int.natCast_add] at *) <;> omega))) | (with_reducible refine Step.mk ?_ ?_) | (with_reducible refine Way.t1 ?_) | (with_reducible refine Way.f1 ?_) | ((with_reducible refine Way.dec (fun zz => ?_) (fun zz => ?_)) <;> (try simp only [castD_self, castL_self] at zz) <;> try (exfalso; first | omega | contradiction)) | (with_reducible refine Way.nt ?_) | ((with_reducible refine Way.mk (fun _ => ?_) (fun _ => ?_)) <;> try (exfalso; rename_i hw; first | exact Bool.noConfusion ((Go.RowKit.Hid.out hg).symm.trans hw) | exact Bool.noConfusion (hw.symm.trans (Go.RowKit.Hid.out hg)))) | (with_reducible refine Drawn.mk (by kernel_rfl) ?_) | (refine Run.mk ?_)))
                  refine loop_by (X := Nat) (fun z => [.put 0 (.v false [.d (.slice .str) b]), .put 7 (.v false [.p 7 0]), .put 10 (.v false [.p 10 0]), .put 11 (.v false [.p 11 0]), .put 12 (.v false [.d (.slice (.int .i64)) (mkG b.length (p ++ q))]), .put 13 (.v false [.o 91]), .put 14 (.v false [.o 92]), .put 15 (.v false [.d (.int .i64) (z : Int)]), .put 16 (.v false [.d (.int .i64) (k : Int)])]) (fun z => [.put 7 (.box 25 [.d (.int .i64) 0, .d (.int .i64) 0]), .put 10 (.box 44 [.d (.slice tHk) p]), .put 11 (.box 44 [.d (.slice tHk) q]), .put 91 (.row 40 tCh o), .put 92 (.row 9 .str c)]) (fun z => k ≤ z ∧ z ≤ hi) (fun z => hi - z) k ⟨Nat.le_refl _, r2⟩ ?_ ?_
                  · (refine Wk.keep ?_ ?_ <;> repeat' (first | exact True.intro | refine And.intro rfl ?_ | refine And.intro (congrArg (fun z : Int => AV.v false [Lf.d (.int .i64) z]) (by first | omega | (simp only [Int.natCast_add, List.length_cons, List.length_append, List.length_nil]; omega))) ?_ | refine And.intro ?_ ?_))
                  rintro z ⟨hz1, hz2⟩
                  (try dsimp only at hz1 hz2 ⊢)
                  by_cases hzt : z < hi
                  · have hcz := hcv.out z hz1 hzt
                    replace hcz := Lib.hid hcz
                    (repeat' (first | (with_reducible refine Cend.go ?_) | (with_reducible refine Step.mk True.intro ?_) | (with_reducible refine Step.mk ?_ ?_; focus (((try simp only [true_and, and_true, and_self, kmin, kmax, decide_eq_true_eq, decide_eq_false_iff_not, castD_self, castL_self, List.length_cons, List.length_nil, List.length_append, Int.natCast_add] at *) <;> omega))) | (with_reducible refine Step.mk ?_ ?_) | (with_reducible refine Way.t1 ?_) | (with_reducible refine Way.f1 ?_) | ((with_reducible refine Way.dec (fun zz => ?_) (fun zz => ?_)) <;> (try simp only [castD_self, castL_self] at zz) <;> try (exfalso; first | omega | contradiction)) | (with_reducible refine Way.nt ?_) | ((with_reducible refine Way.mk (fun _ => ?_) (fun _ => ?_)) <;> try (exfalso; rename_i hw; first | exact Bool.noConfusion ((Go.RowKit.Hid.out hcz).symm.trans hw) | exact Bool.noConfusion (hw.symm.trans (Go.RowKit.Hid.out hcz)))) | (with_reducible refine Drawn.mk (by kernel_rfl) ?_) | (refine Run.mk ?_)))
                    · exact ⟨hpre.out, hqre.out⟩
                    refine Back.by (z + 1) ?_ ?_ ?_
                    · (refine Wk.keep ?_ ?_ <;> repeat' (first | exact True.intro | refine And.intro rfl ?_ | refine And.intro (congrArg (fun z : Int => AV.v false [Lf.d (.int .i64) z]) (by first | omega | (simp only [Int.natCast_add, List.length_cons, List.length_append, List.length_nil]; omega))) ?_ | refine And.intro ?_ ?_))
                    · exact ⟨by omega, by omega⟩
                    · show hi - (z + 1) < hi - z; omega
                  · obtain rfl : z = hi := by omega
                    by_cases hin : z < b.length
                    · have hr := r6 hin
                      rw [if_neg (fun z => z.elim (fun z => by rw [k1] at z; cases z) k2), if_neg (fun z => by rw [k3] at z; cases z), if_neg k4] at hr
                      rw [plF_stM] at hr
                      replace hr := Lib.hid hr
                      clear r6 r7
                      have hvp := Lib.hid (show b.length ≤ 120 ∧ ((∀ h ∈ p, HkOk h) ∧ p.length ≤ 130) ∧ (0 : Int) ≤ (k : Int) ∧ (k : Int) ≤ (z : Int) ∧ (z : Int) ≤ (b.length : Int) from ⟨hbl, hpre.out, by omega, by omega, by omega⟩)
                      have hvq := Lib.hid (show b.length ≤ 120 ∧ ((∀ h ∈ q, HkOk h) ∧ q.length ≤ 130) ∧ (0 : Int) ≤ (k : Int) ∧ (k : Int) ≤ (z : Int) ∧ (z : Int) ≤ (b.length : Int) from ⟨hbl, hqre.out, by omega, by omega, by omega⟩)
                      (repeat' (first | (with_reducible refine Cend.go ?_) | (with_reducible refine Step.mk True.intro ?_) | (with_reducible refine Step.mk ?_ ?_; focus (((try simp only [true_and, and_true, and_self, kmin, kmax, decide_eq_true_eq, decide_eq_false_iff_not, castD_self, castL_self, List.length_cons, List.length_nil, List.length_append, Int.natCast_add] at *) <;> omega))) | (with_reducible refine Step.mk ?_ ?_) | (with_reducible refine Way.t1 ?_) | (with_reducible refine Way.f1 ?_) | ((with_reducible refine Way.dec (fun zz => ?_) (fun zz => ?_)) <;> (try simp only [castD_self, castL_self] at zz) <;> try (exfalso; first | omega | contradiction)) | (with_reducible refine Way.nt ?_) | ((with_reducible refine Way.mk (fun _ => ?_) (fun _ => ?_)) <;> try (exfalso; rename_i hw; first | exact Bool.noConfusion ((Go.RowKit.Hid.out k1n).symm.trans hw) | exact Bool.noConfusion (hw.symm.trans (Go.RowKit.Hid.out k1n)) | exact Bool.noConfusion ((Go.RowKit.Hid.out k3n).symm.trans hw) | exact Bool.noConfusion (hw.symm.trans (Go.RowKit.Hid.out k3n)) | exact Bool.noConfusion ((Go.RowKit.Hid.out r5).symm.trans hw) | exact Bool.noConfusion (hw.symm.trans (Go.RowKit.Hid.out r5)))) | (with_reducible refine Drawn.mk (by kernel_rfl) ?_) | (refine Run.mk ?_)))
                      all_goals first | exact ⟨hpre.out, hqre.out⟩ | exact hvp.out | exact hvq.out | skip
                      refine Back.by (z + 1, (o ++ [(true, [], (b.take ((z : Int)).toNat).drop ((k : Int)).toNat, (vT b p (z : Int) ((z : Int) - (k : Int) + 1).toNat (k : Int)), (vT b q (z : Int) ((z : Int) - (k : Int) + 1).toNat (k : Int)))]), (c ++ [b.getD ((z : Int)).toNat Ty.str.dflt]), false) ?_ ?_ ?_
                      · (refine Wk.ren [(91, 127), (92, 138)] rfl ?_ ?_ <;> repeat' (first | exact True.intro | refine And.intro rfl ?_ | refine And.intro (congrArg (fun z : Int => AV.v false [Lf.d (.int .i64) z]) (by first | omega | (simp only [Int.natCast_add, List.length_cons, List.length_append, List.length_nil]; omega))) ?_ | refine And.intro ?_ ?_))
                      · refine ⟨by omega, (by dsimp only; rw [hbk.out, hsl.out, List.eq_nil_of_length_eq_zero (show c.length = 0 by omega)]; exact hr.out), ?_, ?_, Iff.intro (fun z => by cases z) (fun z => by omega)⟩
                        · show ((o ++ [(true, [], (b.take ((z : Int)).toNat).drop ((k : Int)).toNat, (vT b p (z : Int) ((z : Int) - (k : Int) + 1).toNat (k : Int)), (vT b q (z : Int) ((z : Int) - (k : Int) + 1).toNat (k : Int)))])).length ≤ 2 * (z + 1)
                          rw [List.length_append, List.length_singleton]; omega
                        · show ((c ++ [b.getD ((z : Int)).toNat Ty.str.dflt])).length ≤ 20000 * (z + 1)
                          rw [List.length_append, List.length_singleton]; omega
                      · show b.length + 1 - (z + 1) < b.length + 1 - k; omega
                    · have hr := r7 (by omega)
                      rw [if_neg (fun z => z.elim (fun z => by rw [k1] at z; cases z) k2), if_neg (fun z => by rw [k3] at z; cases z), if_neg k4] at hr
                      replace hr := Lib.hid hr
                      clear r6 r7
                      have hvp := Lib.hid (show b.length ≤ 120 ∧ ((∀ h ∈ p, HkOk h) ∧ p.length ≤ 130) ∧ (0 : Int) ≤ (k : Int) ∧ (k : Int) ≤ (z : Int) ∧ (z : Int) ≤ (b.length : Int) from ⟨hbl, hpre.out, by omega, by omega, by omega⟩)
                      have hvq := Lib.hid (show b.length ≤ 120 ∧ ((∀ h ∈ q, HkOk h) ∧ q.length ≤ 130) ∧ (0 : Int) ≤ (k : Int) ∧ (k : Int) ≤ (z : Int) ∧ (z : Int) ≤ (b.length : Int) from ⟨hbl, hqre.out, by omega, by omega, by omega⟩)
                      (repeat' (first | (with_reducible refine Cend.go ?_) | (with_reducible refine Step.mk True.intro ?_) | (with_reducible refine Step.mk ?_ ?_; focus (((try simp only [true_and, and_true, and_self, kmin, kmax, decide_eq_true_eq, decide_eq_false_iff_not, castD_self, castL_self, List.length_cons, List.length_nil, List.length_append, Int.natCast_add] at *) <;> omega))) | (with_reducible refine Step.mk ?_ ?_) | (with_reducible refine Way.t1 ?_) | (with_reducible refine Way.f1 ?_) | ((with_reducible refine Way.dec (fun zz => ?_) (fun zz => ?_)) <;> (try simp only [castD_self, castL_self] at zz) <;> try (exfalso; first | omega | contradiction)) | (with_reducible refine Way.nt ?_) | ((with_reducible refine Way.mk (fun _ => ?_) (fun _ => ?_)) <;> try (exfalso; rename_i hw; first | exact Bool.noConfusion ((Go.RowKit.Hid.out k1n).symm.trans hw) | exact Bool.noConfusion (hw.symm.trans (Go.RowKit.Hid.out k1n)) | exact Bool.noConfusion ((Go.RowKit.Hid.out k3n).symm.trans hw) | exact Bool.noConfusion (hw.symm.trans (Go.RowKit.Hid.out k3n)) | exact Bool.noConfusion ((Go.RowKit.Hid.out r5).symm.trans hw) | exact Bool.noConfusion (hw.symm.trans (Go.RowKit.Hid.out r5)))) | (with_reducible refine Drawn.mk (by kernel_rfl) ?_) | (refine Run.mk ?_)))
                      all_goals first | exact ⟨hpre.out, hqre.out⟩ | exact hvp.out | exact hvq.out | skip
                      refine Back.by (z + 1, (o ++ [(true, [], (b.take ((z : Int)).toNat).drop ((k : Int)).toNat, (vT b p (z : Int) ((z : Int) - (k : Int) + 1).toNat (k : Int)), (vT b q (z : Int) ((z : Int) - (k : Int) + 1).toNat (k : Int)))]), c, true) ?_ ?_ ?_
                      · refine (Wk.freeze (hl' := [.put 7 (.box 25 [.d (.int .i64) 0, .d (.int .i64) 0]), .put 10 (.box 44 [.d (.slice tHk) p]), .put 11 (.box 44 [.d (.slice tHk) q]), .put 127 (.row 40 tCh (o ++ [(true, [], (b.take ((z : Int)).toNat).drop ((k : Int)).toNat, (vT b p (z : Int) ((z : Int) - (k : Int) + 1).toNat (k : Int)), (vT b q (z : Int) ((z : Int) - (k : Int) + 1).toNat (k : Int)))]))]) 14 92 rfl rfl (by repeat (first | exact True.intro | refine And.intro rfl ?_)) rfl).trans ?_
                        (refine Wk.ren [(91, 127)] rfl ?_ ?_ <;> repeat' (first | exact True.intro | refine And.intro rfl ?_ | refine And.intro (congrArg (fun z : Int => AV.v false [Lf.d (.int .i64) z]) (by first | omega | (simp only [Int.natCast_add, List.length_cons, List.length_append, List.length_nil]; omega))) ?_ | refine And.intro ?_ ?_))
                      · refine ⟨by omega, (by dsimp only; rw [hsl.out, List.eq_nil_of_length_eq_zero (show c.length = 0 by omega)]; exact hr.out), ?_, ?_, Iff.intro (fun _ => by omega) (fun _ => rfl)⟩
                        · show ((o ++ [(true, [], (b.take ((z : Int)).toNat).drop ((k : Int)).toNat, (vT b p (z : Int) ((z : Int) - (k : Int) + 1).toNat (k : Int)), (vT b q (z : Int) ((z : Int) - (k : Int) + 1).toNat (k : Int)))])).length ≤ 2 * (z + 1)
                          rw [List.length_append, List.length_singleton]; omega
                        · show (c).length ≤ 20000 * (z + 1)
                          omega
                      · show b.length + 1 - (z + 1) < b.length + 1 - k; omega
    · have hC : mgC b l r = vC r := by unfold mgC; rw [if_neg (fun z => z h0)]
      have hI : mgI b l r = -3 := by unfold mgI; rw [if_neg (fun z => z h0), if_neg hr]
      have hV : mgV b l r = [] := if_neg (by rw [hC]; exact hr)
      dsimp only
      rw [hV, hC, hI]
      have hv := Lib.hid h0
      (refine fnM_of rfl rfl rfl rfl ?_; dsimp only [params, argAV, Ty.leaves, Ty.isSt])
      (repeat' (first | (with_reducible refine Cend.go ?_) | (with_reducible refine Step.mk True.intro ?_) | (with_reducible refine Step.mk ?_ ?_; focus (((try simp only [true_and, and_true, and_self, kmin, kmax, decide_eq_true_eq, decide_eq_false_iff_not, castD_self, castL_self, List.length_cons, List.length_nil, List.length_append, Int.natCast_add] at *) <;> omega))) | (with_reducible refine Step.mk ?_ ?_) | (with_reducible refine Way.t1 ?_) | (with_reducible refine Way.f1 ?_) | ((with_reducible refine Way.dec (fun zz => ?_) (fun zz => ?_)) <;> (try simp only [castD_self, castL_self] at zz) <;> try (exfalso; first | omega | contradiction)) | (with_reducible refine Way.nt ?_) | ((with_reducible refine Way.mk (fun _ => ?_) (fun _ => ?_)) <;> try (exfalso; rename_i hw; first | exact Bool.noConfusion ((Go.RowKit.Hid.out hv).symm.trans hw) | exact Bool.noConfusion (hw.symm.trans (Go.RowKit.Hid.out hv)))) | (with_reducible refine Drawn.mk (by kernel_rfl) ?_) | (refine Run.mk ?_)))
      exact Ret.mk ⟨⟨rfl, .frz rfl, True.intro⟩, ⟨rfl, .same, .same, True.intro⟩, True.intro⟩
  · have hC : mgC b l r = bC b l := if_pos h0
    have hI : mgI b l r = bI b l := if_pos h0
    have hV : mgV b l r = [] := if_neg (by rw [hC]; exact h0)
    dsimp only
    rw [hV, hC, hI]
    have hv := Lib.hid hC
    (refine fnM_of rfl rfl rfl rfl ?_; dsimp only [params, argAV, Ty.leaves, Ty.isSt])
    (repeat' (first | (with_reducible refine Cend.go ?_) | (with_reducible refine Step.mk True.intro ?_) | (with_reducible refine Step.mk ?_ ?_; focus (((try simp only [true_and, and_true, and_self, kmin, kmax, decide_eq_true_eq, decide_eq_false_iff_not, castD_self, castL_self, List.length_cons, List.length_nil, List.length_append, Int.natCast_add] at *) <;> omega))) | (with_reducible refine Step.mk ?_ ?_) | (with_reducible refine Way.t1 ?_) | (with_reducible refine Way.f1 ?_) | ((with_reducible refine Way.dec (fun zz => ?_) (fun zz => ?_)) <;> (try simp only [castD_self, castL_self] at zz) <;> try (exfalso; first | omega | contradiction)) | (with_reducible refine Way.nt ?_) | ((with_reducible refine Way.mk (fun _ => ?_) (fun _ => ?_)) <;> try (exfalso; rename_i hw; first | exact Bool.noConfusion ((Go.RowKit.Hid.out hv).symm.trans hw) | exact Bool.noConfusion (hw.symm.trans (Go.RowKit.Hid.out hv)))) | (with_reducible refine Drawn.mk (by kernel_rfl) ?_) | (refine Run.mk ?_)))
    exact Ret.mk ⟨⟨rfl, .frz rfl, True.intro⟩, ⟨rfl, .same, .same, True.intro⟩, True.intro⟩
theorem law_Merge3MatchesSpec : SpFact 3 (pureSp false [.slice .str, .slice .str, .slice .str] (fun _ => True) (fun _ => .v false [.d .bool true])) := by
  refine ⟨⟨Try.f3, rfl, rfl, rfl, pureSp_ok (env_fine (sp := [(9, sp_Merge), (10, sp_Merge), (11, sp_Chunks), (12, sp_opp)]) (eq := [(25, true)]) ⟨Merge_sp, RMerge_sp, Chunks_sp, opposed_sp, True.intro⟩ ⟨eq_fault, True.intro⟩) rfl (fun _ _ => rfl) ?_⟩, pureSp_loc _ _ _ _⟩
  rintro ⟨b, l, r, u⟩ - -
  change List ByteArray at b l r
  (refine fnM_of rfl rfl rfl rfl ?_; dsimp only [params, argAV, Ty.leaves, Ty.isSt])
  (repeat' (first | (with_reducible refine Cend.go ?_) | (with_reducible refine Step.mk True.intro ?_) | (with_reducible refine Step.mk ?_ ?_; focus (((try simp only [true_and, and_true, and_self, kmin, kmax, decide_eq_true_eq, decide_eq_false_iff_not, castD_self, castL_self, List.length_cons, List.length_nil, List.length_append, Int.natCast_add] at *) <;> omega))) | (with_reducible refine Step.mk ?_ ?_) | (with_reducible refine Way.t1 ?_) | (with_reducible refine Way.f1 ?_) | ((with_reducible refine Way.dec (fun _ => ?_) (fun _ => ?_)) <;> try (exfalso; omega)) | (with_reducible refine Way.nt ?_) | (with_reducible refine Way.mk (fun _ => ?_) (fun _ => ?_)) | (with_reducible refine Drawn.mk (by kernel_rfl) ?_) | (refine Run.mk ?_)))
  all_goals first
    | exact Ret.mk rfl
    | (rename_i q; exact absurd rfl q)
    | (rename_i q; exfalso; revert q; simp)
end Go.Proofs.Ytppmhjaooiameaa
