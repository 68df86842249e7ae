/- The walks of merge3.within, merge3.Merge. -/
import Derived.Test.YtppmhjaooiameaaWxReg2
import Derived.Test.YtppmhjaooiameaaWxScript
import Derived.Test.YtppmhjaooiameaaWxApply
import Derived.Test.YtppmhjaooiameaaWxClone
namespace Go.Proofs.Ytppmhjaooiameaa
open Go.RowKit
set_option maxRecDepth 10000
set_option linter.unusedSimpArgs false

theorem inR_take {p : List Hk} {lo hi : Int} {k : Nat} (h : k < p.length) : inR (p.take (k + 1)) lo hi = if lo ≤ p[k].1 ∧ hkEnd p[k] ≤ hi then inR (p.take k) lo hi ++ [p[k]] else inR (p.take k) lo hi := by
  unfold inR
  rw [List.take_add_one, List.getElem?_eq_getElem h, Option.toList_some, List.filter_append, List.filter_cons, List.filter_nil]
  by_cases q : lo ≤ p[k].1 ∧ hkEnd p[k] ≤ hi
  · rw [if_pos q, if_pos (by simp [q.1, q.2])]
  · rw [if_neg q, if_neg (by simpa using q), List.append_nil]
def sp_within : SpecF := pureSp false [tPat, tRg] (fun (p', _, _) => (∀ h ∈ p', HkOk h) ∧ p'.length ≤ 130) (fun (p', r', _) => .v false [.d (.slice tHk) (inR p' r'.1 r'.2.1)])
theorem within_sp : SpFact 27 sp_within := by
  refine ⟨⟨Try.f27, rfl, rfl, rfl, pureSp_okF (env_fine (sp := [(59, sp_End)]) (eq := []) ⟨End_sp, True.intro⟩ True.intro) rfl (fun _ _ => rfl) ?_⟩, pureSp_loc _ _ _ _⟩
  rintro ⟨p, ⟨lo, hi, gr⟩, u⟩ - ⟨hok, hlen⟩
  change List Hk at p
  change Int at lo hi gr
  replace hlen : p.length ≤ 130 := hlen
  replace hok : ∀ h ∈ p, HkOk h := hok
  replace hok := Lib.hid hok
  (refine fnM_of rfl rfl rfl rfl ?_; dsimp only [params, argAV, Ty.leaves, Ty.isSt])
  (repeat' (first | (with_reducible refine Cend.go ?_) | (with_reducible refine Step.mk True.intro ?_) | (with_reducible refine Step.mk ?_ ?_; focus (((try simp only [true_and, and_true, and_self, kmin, kmax, decide_eq_true_eq, decide_eq_false_iff_not, castD_self, castL_self, List.length_cons, List.length_nil, List.length_append, Int.natCast_add] at *) <;> omega))) | (with_reducible refine Step.mk ?_ ?_) | (with_reducible refine Way.t1 ?_) | (with_reducible refine Way.f1 ?_) | ((with_reducible refine Way.dec (fun _ => ?_) (fun _ => ?_)) <;> try (exfalso; omega)) | (with_reducible refine Way.nt ?_) | (with_reducible refine Way.mk (fun _ => ?_) (fun _ => ?_)) | (with_reducible refine Drawn.mk (by kernel_rfl) ?_) | (refine Run.mk ?_)))
  refine loop_by (X := Nat) (fun k => [.put 3 (.v false [.p 3 0]), .put 5 (.v false [.o 91]), .put 9 (.v false [.d (.slice tHk) p]), .put 10 (.v false [.d (.int .i64) (p.length : Int)]), .put 11 (.v false [.d (.int .i64) (k : Int)])])
    (fun k => [.put 3 (.box 57 [.d (.int .i64) lo, .d (.int .i64) hi, .d (.int .i64) gr]), .put 91 (.row 85 tHk (inR (p.take k) lo hi))]) (fun k => k ≤ p.length) (fun k => p.length - k) 0 (Nat.zero_le _) ?_ ?_
  · refine (Wk.nilrow 5 91 85 tHk rfl).trans ?_
    (refine Wk.keep ?_ ?_ <;> repeat' (first | exact True.intro | refine And.intro rfl ?_ | refine And.intro (congrArg (fun z : Int => AV.v false [Lf.d (.int .i64) z]) (by first | omega | (simp only [Int.natCast_add, List.length_cons, List.length_append, List.length_nil]; omega))) ?_ | refine And.intro ?_ ?_))
  intro k hk
  (try dsimp only)
  by_cases hlt : k < p.length
  · have hg := getD_at (a := p) tHk.dflt hlt
    have ho := hok.out p[k] (List.getElem_mem hlt)
    have hs := inR_take (lo := lo) (hi := hi) hlt
    have hil : (inR (p.take k) lo hi).length ≤ 130 := by
      have := List.length_filter_le (fun h : Hk => decide (lo ≤ h.1) && decide (hkEnd h ≤ hi)) (p.take k)
      have e : inR (p.take k) lo hi = (p.take k).filter (fun h : Hk => decide (lo ≤ h.1) && decide (hkEnd h ≤ hi)) := rfl
      rw [List.length_take] at this
      rw [e]; omega
    rw [← hg] at ho hs
    replace hg := Lib.hid hg
    replace hs := Lib.hid hs
    replace ho := Lib.hid ho
    (repeat' (first | (with_reducible refine Cend.go ?_) | (with_reducible refine Step.mk True.intro ?_) | (with_reducible refine Step.mk ?_ ?_; focus (((try simp only [true_and, and_true, and_self, kmin, kmax, decide_eq_true_eq, decide_eq_false_iff_not, castD_self, castL_self, List.length_cons, List.length_nil, List.length_append, Int.natCast_add] at *) <;> omega))) | (with_reducible refine Step.mk ?_ ?_) | (with_reducible refine Way.t1 ?_) | (with_reducible refine Way.f1 ?_) | ((with_reducible refine Way.dec (fun _ => ?_) (fun _ => ?_)) <;> try (exfalso; omega)) | (with_reducible refine Way.nt ?_) | (with_reducible refine Way.mk (fun _ => ?_) (fun _ => ?_)) | (with_reducible refine Drawn.mk (by kernel_rfl) ?_) | (refine Run.mk ?_)))
    · exact ho.out
    · rename_i q1 q2
      have e := hs.out.trans (if_pos ⟨q1, q2⟩)
      refine Back.by (k + 1) ?_ ?_ ?_
      · rw [e]
        (refine Wk.ren [(91, 30)] rfl ?_ ?_ <;> repeat' (first | exact True.intro | refine And.intro rfl ?_ | refine And.intro (congrArg (fun z : Int => AV.v false [Lf.d (.int .i64) z]) (by first | omega | (simp only [Int.natCast_add, List.length_cons, List.length_append, List.length_nil]; omega))) ?_ | refine And.intro ?_ ?_))
      · exact hlt
      · show p.length - (k + 1) < p.length - k; omega
    · rename_i q1 q2
      have e := hs.out.trans (if_neg (fun z => q2 z.2))
      refine Back.by (k + 1) ?_ ?_ ?_
      · rw [e]
        (refine Wk.keep ?_ ?_ <;> repeat' (first | exact True.intro | refine And.intro rfl ?_ | refine And.intro (congrArg (fun z : Int => AV.v false [Lf.d (.int .i64) z]) (by first | omega | (simp only [Int.natCast_add, List.length_cons, List.length_append, List.length_nil]; omega))) ?_ | refine And.intro ?_ ?_))
      · exact hlt
      · show p.length - (k + 1) < p.length - k; omega
    · rename_i q1
      have e := hs.out.trans (if_neg (fun z => q1 z.1))
      refine Back.by (k + 1) ?_ ?_ ?_
      · rw [e]
        (refine Wk.keep ?_ ?_ <;> repeat' (first | exact True.intro | refine And.intro rfl ?_ | refine And.intro (congrArg (fun z : Int => AV.v false [Lf.d (.int .i64) z]) (by first | omega | (simp only [Int.natCast_add, List.length_cons, List.length_append, List.length_nil]; omega))) ?_ | refine And.intro ?_ ?_))
      · exact hlt
      · show p.length - (k + 1) < p.length - k; omega
  · rw [List.take_of_length_le (by omega)]
    (repeat' (first | (with_reducible refine Cend.go ?_) | (with_reducible refine Step.mk True.intro ?_) | (with_reducible refine Step.mk ?_ ?_; focus (((try simp only [true_and, and_true, and_self, kmin, kmax, decide_eq_true_eq, decide_eq_false_iff_not, castD_self, castL_self, List.length_cons, List.length_nil, List.length_append, Int.natCast_add] at *) <;> omega))) | (with_reducible refine Step.mk ?_ ?_) | (with_reducible refine Way.t1 ?_) | (with_reducible refine Way.f1 ?_) | ((with_reducible refine Way.dec (fun _ => ?_) (fun _ => ?_)) <;> try (exfalso; omega)) | (with_reducible refine Way.nt ?_) | (with_reducible refine Way.mk (fun _ => ?_) (fun _ => ?_)) | (with_reducible refine Drawn.mk (by kernel_rfl) ?_) | (refine Run.mk ?_)))
    refine Ret.mk ?_
    exact ⟨rfl, .frz rfl, True.intro⟩

theorem script_in {a b : List ByteArray} (ha : vC a = 0) (hb : vC b = 0) : (∀ h ∈ script a b, HkOk h) ∧ (script a b).length ≤ 130 ∧ phC (-1) (script a b) = 0 ∧ ∀ h ∈ script a b, 0 ≤ h.1 ∧ hkEnd h ≤ a.length := by
  have hg := script_good ha hb
  obtain ⟨hlen, hok⟩ := pC_ok hg
  have hp : phC (-1) (script a b) = 0 := by
    unfold pC at hg
    rwa [if_neg (by omega)] at hg
  have ha' := script_ap a b
  obtain ⟨i1, -⟩ := ap_to a (script a b) 0 b (Int.le_refl _) (by omega) (by simpa using ha')
  refine ⟨hok, hlen, hp, fun h hh => ⟨(hok h hh).1, ?_⟩⟩
  have := i1 h hh
  unfold occ at this
  simp only [Bool.and_eq_true, decide_eq_true_eq] at this
  unfold hkEnd; omega
/-- the merger's objects: closed, and with an open chunk -/
def mgH (D : List Ch) : Option (List ByteArray) → List HEnt
  | none => [.put 14 (.box 53 [.o 91]), .put 91 (.row 40 tCh D)]
  | some l => [.put 14 (.box 53 [.o 91]), .put 91 (.rox 40 tCh D [.d .bool false, .o 92, .nl, .nl, .nl] []), .put 92 (.row 9 .str l)]
noncomputable def sp_Merge : SpecF := pureSp false [.slice .str, .slice .str, .slice .str] (fun _ => True) (fun (b', l', r', _) => .tu [(false, [.d (.slice tCh) (mgV b' l' r')]), (true, [.d (.int .i64) (mgC b' l' r'), .d (.int .i64) (mgI b' l' r')])])
theorem getD_last (L : List Ch) (c d : Ch) : ((L ++ [c]).getD ((L ++ [c]).length - 1) d) = c := by
  rw [List.length_append, List.length_singleton, Nat.add_sub_cancel]
  exact getD_mid L [] c d
set_option maxHeartbeats 8000000 in
theorem Merge_sp : SpFact 9 sp_Merge := by
  refine ⟨⟨Try.f9, rfl, rfl, rfl, pureSp_okF (env1_fine (sp := [(23, sp_Both), (24, sp_Second), (20, sp_Script), (25, sp_regions), (27, sp_within), (28, sp_Raw), (29, sp_Equal), (30, sp_Clone)]) (eq := [(25, true)])
    (inl := [(26, Try.f26)]) (cl := []) ⟨Both_sp, Second_sp, Script_sp, regions_sp, within_sp, Raw_sp, Equal_sp, Clone_sp, True.intro⟩ ⟨eq_fault, True.intro⟩ ⟨⟨rfl, rfl, rfl⟩, True.intro⟩) rfl (fun _ _ => rfl) ?_⟩, pureSp_loc _ _ _ _⟩
  rintro ⟨b, l, r, u⟩ - -
  change List ByteArray at b l r
  by_cases h0 : bC b l = 0
  · obtain ⟨hbl, hl0, hi⟩ := bgood h0
    have hf : (decide (bC b l = 0) && decide (bI b l = 0)) = true := by rw [bfault, decide_eq_true h0]
    by_cases hr : vC r = 0
    · obtain ⟨g1, g2⟩ := (bC_good b l).1 h0
      have hb0 := (vC_good b).2 g1
      have hl1 := (vC_good l).2 g2
      have hbr : bC b r = 0 := (bC_good b r).2 ⟨g1, (vC_good r).1 hr⟩
      have hsp : scV b l = script b l := if_pos h0
      have hsq : scV b r = script b r := if_pos hbr
      obtain ⟨hpo, hpl, hpp, hpi⟩ := script_in hb0 hl1
      obtain ⟨hqo, hql, hqp, hqi⟩ := script_in hb0 hr
      have hC : mgC b l r = 0 := by unfold mgC; rw [if_neg (fun z => z h0), hr]
      have hI : mgI b l r = 0 := by unfold mgI; rw [if_neg (fun z => z h0), if_pos hr]
      have hV : mgV b l r = mgL b (script b l) (script b r) := if_pos hC
      dsimp only
      rw [hV, hC, hI]
      clear hV hC hI hi g1 g2 hb0 hl1
      have hR0 : ∀ r' ∈ oldR (script b l) ++ oldR (script b r), RB r' := by
        intro r' hr'
        have : (0 ≤ r'.1 ∧ r'.1 ≤ 120) ∧ (0 ≤ r'.2.1 ∧ r'.2.1 ≤ 240) := by
          rcases List.mem_append.1 hr' with q | q
          · exact old_RB hpo r' q
          · exact old_RB hqo r' q
        exact ⟨⟨by omega, by omega⟩, by omega, by omega⟩
      have hRp : (regV (script b l) (script b r)).map prj = rgP (script b l) (script b r) := by unfold regV; rw [mrgR_prj, srtR_prj hR0]; rfl
      have hRo : rgnOk b.length 0 ((regV (script b l) (script b r)).map prj) := by rw [hRp]; exact rgP_ok (by omega) hpi hqi
      have hRl : (regV (script b l) (script b r)).length ≤ 260 := by
        rw [← List.length_map (f := prj), hRp]
        have hpm := (srtP_perm ((oldR (script b l) ++ oldR (script b r)).map prj)).length_eq
        have e1 : (oldR (script b l)).length = (script b l).length := by unfold oldR; rw [List.length_map]
        have e2 : (oldR (script b r)).length = (script b r).length := by unfold oldR; rw [List.length_map]
        rw [List.length_map, List.length_append, e1, e2] at hpm
        unfold rgP mrgP
        generalize srtP ((oldR (script b l) ++ oldR (script b r)).map prj) = L at hpm
        cases L with
        | nil => exact Nat.zero_le _
        | cons x L =>
          have := mrgPC_len L x
          rw [List.length_cons] at hpm
          show (mrgPC x L).length ≤ 260
          omega
      obtain ⟨p, hp⟩ : ∃ p, script b l = p := ⟨_, rfl⟩
      obtain ⟨q, hq⟩ : ∃ q, script b r = q := ⟨_, rfl⟩
      obtain ⟨R, hR⟩ : ∃ R, regV p q = R := ⟨_, rfl⟩
      rw [hp, hq] at hR0 hRp hRo hRl ⊢
      rw [hp] at hpo hpl hpp hpi hsp
      rw [hq] at hqo hql hqp hqi hsq
      rw [hR] at hRp hRo hRl
      clear hR0
      have hal : ∀ (p' : List Hk) (lo hi : Int), (∀ h ∈ p', HkOk h) → p'.length ≤ 130 → (raw b hi lo (inR p' lo hi)).length ≤ 31320 ∧ (inR p' lo hi).length ≤ 130 := by
        intro p' lo hi h1 h2
        have e : (inR p' lo hi).length ≤ p'.length := List.length_filter_le _ _
        have := raw_len (high := hi) hbl (inR p' lo hi) lo (fun x hx => (h1 x (List.mem_filter.1 hx).1).2.2.2)
        exact ⟨by omega, by omega⟩
      have hpo' := hpo
      have hqo' := hqo
      replace hal := Lib.hid hal
      replace hpo := Lib.hid hpo
      replace hqo := Lib.hid hqo
      replace hpi := Lib.hid hpi
      replace hqi := Lib.hid hqi
      replace hpp := Lib.hid hpp
      replace hqp := Lib.hid hqp
      replace hRp := Lib.hid hRp
      replace hf := Lib.hid hf
      replace hpo' := Lib.hid hpo'
      replace hqo' := Lib.hid hqo'
      (refine fnM_of rfl rfl rfl rfl ?_; dsimp only [params, argAV, Ty.leaves, Ty.isSt])
      (repeat' (first | (with_reducible refine Cend.go ?_) | (with_reducible refine Step.mk True.intro ?_) | (with_reducible refine Step.mk ?_ ?_; focus (((try simp only [true_and, and_true, and_self, kmin, kmax, decide_eq_true_eq, decide_eq_false_iff_not, castD_self, castL_self, List.length_cons, List.length_nil, List.length_append, Int.natCast_add] at *) <;> omega))) | (with_reducible refine Step.mk ?_ ?_) | (with_reducible refine Way.t1 ?_) | (with_reducible refine Way.f1 ?_) | ((with_reducible refine Way.dec (fun _ => ?_) (fun _ => ?_)) <;> try (exfalso; omega)) | (with_reducible refine Way.nt ?_) | ((with_reducible refine Way.mk (fun _ => ?_) (fun _ => ?_)) <;> try (exfalso; rename_i hw; first | exact Bool.noConfusion ((Go.RowKit.Hid.out hf).symm.trans hw) | exact Bool.noConfusion (hw.symm.trans (Go.RowKit.Hid.out hf)))) | (with_reducible refine Drawn.mk (by kernel_rfl) ?_) | (refine Run.mk ?_)))
      all_goals try (rename_i z; exfalso; have z : (decide (vC r = 0) && decide ((if vC r = 0 then (0 : Int) else -3) = 0)) = false := z; rw [hr] at z; exact Bool.noConfusion z)
      · show ((∀ h ∈ scV b l, HkOk h) ∧ (scV b l).length ≤ 130) ∧ (∀ h ∈ scV b r, HkOk h) ∧ (scV b r).length ≤ 130
        rw [hsp, hsq]; exact ⟨⟨hpo.out, hpl⟩, hqo.out, hql⟩
      · show (((regV (scV b l) (scV b r)).length : Nat) : Int) ≤ _
        rw [hsp, hsq, hR]; omega
      refine loop_by (X := Nat × Int × List Ch × Option (List ByteArray)) (fun x => [.put 0 (.v false [.d (.slice .str) b]), .put 7 (.v false [.p 7 0]), .put 10 (.v false [.p 10 0]), .put 12 (.v false [.p 12 0]), .put 14 (.v false [.p 14 0]), .put 15 (.v false [.d (.int .i64) x.2.1]), .put 49 (.v false [.d (.slice tRg) (regV (scV b l) (scV b r))]), .put 50 (.v false [.d (.int .i64) ((regV (scV b l) (scV b r)).length : Int)]), .put 51 (.v false [.d (.int .i64) (x.1 : Int)])])
        (fun x => .put 7 (.box 25 [.d (.int .i64) 0, .d (.int .i64) 0]) :: .put 10 (.box 44 [.d (.slice tHk) (scV b l)]) :: .put 12 (.box 44 [.d (.slice tHk) (scV b r)]) :: mgH x.2.2.1 x.2.2.2)
        (fun x => x.1 ≤ R.length ∧ rgnOk b.length x.2.1 ((R.drop x.1).map prj) ∧ mgN b p q (rgP p q) 0 ([], none) = mgN b p q ((R.drop x.1).map prj) x.2.1 (x.2.2.1, x.2.2.2) ∧ x.2.2.1.length ≤ 2 * x.1 ∧
          (x.2.2.2 = none → 0 < x.2.2.1.length → (x.2.2.1.getD (x.2.2.1.length - 1) tCh.dflt).1 = true) ∧ ∀ L, x.2.2.2 = some L → L.length ≤ 40000 * x.1)
        (fun x => R.length - x.1) (0, 0, [], none) ⟨Nat.zero_le _, hRo, by rw [List.drop_zero, hRp.out], Nat.le_refl _, fun _ z => absurd z (Nat.lt_irrefl 0), fun L z => by cases z⟩ ?_ ?_
      · refine (Wk.nilbox 14 0 91 40 tCh (T := 53) (cs := [.nl]) rfl rfl rfl).trans ?_
        (refine Wk.keep ?_ ?_ <;> repeat' (first | exact True.intro | refine And.intro rfl ?_ | refine And.intro (congrArg (fun z : Int => AV.v false [Lf.d (.int .i64) z]) (by first | omega | (simp only [Int.natCast_add, List.length_cons, List.length_append, List.length_nil]; omega))) ?_ | refine And.intro ?_ ?_))
      rintro ⟨k, a0, D, cur⟩ ⟨hk, hrg, hmN, hDl, hcf0, hL0⟩
      dsimp only at hk hrg hmN hDl hcf0 hL0 ⊢
      rw [hsp, hsq, hR]
      replace hcf0 := Lib.hid hcf0
      replace hL0 := Lib.hid hL0
      by_cases hlt : k < R.length
      · have hg : R.getD ((k : Int)).toNat tRg.dflt = R[k] := getD_at tRg.dflt hlt
        rw [List.drop_eq_getElem_cons hlt, ← hg, List.map_cons] at hrg hmN
        obtain ⟨r0, r1, r2, r3, hrg⟩ := hrg
        have r1 : a0 ≤ (R.getD ((k : Int)).toNat tRg.dflt).1 := r1
        have r2 : (R.getD ((k : Int)).toNat tRg.dflt).1 ≤ (R.getD ((k : Int)).toNat tRg.dflt).2.1 := r2
        have r3 : (R.getD ((k : Int)).toNat tRg.dflt).2.1 ≤ b.length := r3
        have hmN : mgN b p q (rgP p q) 0 ([], none) = mgN b p q ((R.drop (k + 1)).map prj) (R.getD ((k : Int)).toNat tRg.dflt).2.1 (mgS b p q (R.getD ((k : Int)).toNat tRg.dflt).1 (R.getD ((k : Int)).toNat tRg.dflt).2.1 (plF (D, cur) (List.drop a0.toNat (List.take (R.getD ((k : Int)).toNat tRg.dflt).1.toNat b)))) := hmN
        have hra := inR_raw (t := b) r3 p (-1) (R.getD ((k : Int)).toNat tRg.dflt).1 hpp.out (by omega) r2
        have hrb := inR_raw (t := b) r3 q (-1) (R.getD ((k : Int)).toNat tRg.dflt).1 hqp.out (by omega) r2
        obtain ⟨hAl, hil⟩ := hal.out p (R.getD ((k : Int)).toNat tRg.dflt).1 (R.getD ((k : Int)).toNat tRg.dflt).2.1 hpo'.out hpl
        obtain ⟨hBl, hjl⟩ := hal.out q (R.getD ((k : Int)).toNat tRg.dflt).1 (R.getD ((k : Int)).toNat tRg.dflt).2.1 hqo'.out hql
        have hPl : (List.drop a0.toNat (List.take (R.getD ((k : Int)).toNat tRg.dflt).1.toNat b)).length ≤ 120 := by rw [List.length_drop, List.length_take]; omega
        have hcl : (List.drop (R.getD ((k : Int)).toNat tRg.dflt).1.toNat (List.take (R.getD ((k : Int)).toNat tRg.dflt).2.1.toNat b)).length ≤ 1000000 := by rw [List.length_drop, List.length_take]; omega
        replace hg := Lib.hid hg
        replace hrg := Lib.hid hrg
        replace hra := Lib.hid hra
        replace hrb := Lib.hid hrb
--GEN
        rcases cur with _ | m
        · by_cases hD : D.length = 0
          · have hcf := hf
            by_cases hpre : (List.drop a0.toNat (List.take (R.getD ((k : Int)).toNat tRg.dflt).1.toNat b)).length = 0
            · skip
              by_cases hT : (inR q (R.getD ((k : Int)).toNat tRg.dflt).1 (R.getD ((k : Int)).toNat tRg.dflt).2.1).length = 0
              · by_cases hL : (raw b (R.getD ((k : Int)).toNat tRg.dflt).2.1 (R.getD ((k : Int)).toNat tRg.dflt).1 (inR p (R.getD ((k : Int)).toNat tRg.dflt).1 (R.getD ((k : Int)).toNat tRg.dflt).2.1)).length = 0
                · skip
                  have e1 : plF (D, none) (List.drop a0.toNat (List.take (R.getD ((k : Int)).toNat tRg.dflt).1.toNat b)) = (D, none) := if_pos hpre
                  have e2 : mgS b p q (R.getD ((k : Int)).toNat tRg.dflt).1 (R.getD ((k : Int)).toNat tRg.dflt).2.1 (D, none) = (D, none) := (if_pos (.inl hT)).trans (if_pos hL)
                  rw [e1, e2] at hmN
                  replace hmN := Lib.hid hmN
                  clear e1 e2
                  dsimp only [mgH]
                  (repeat' (first | (with_reducible refine Step.mk True.intro ?_) | (with_reducible refine Step.mk ?_ ?_; focus (((try simp only [true_and, and_true, and_self, kmin, kmax, decide_eq_true_eq, decide_eq_false_iff_not, castD_self, castL_self, List.length_cons, List.length_nil, List.length_append, Int.natCast_add] at *) <;> omega))) | (with_reducible refine Step.mk ?_ ?_) | (with_reducible refine Way.t1 ?_) | (with_reducible refine Way.f1 ?_) | ((with_reducible refine Way.dec (fun zz => ?_) (fun zz => ?_)) <;> (try simp only [castD_self, castL_self] at zz) <;> try (exfalso; first | omega | contradiction)) | (with_reducible refine Way.nt ?_) | ((with_reducible refine Way.mk (fun _ => ?_) (fun _ => ?_)) <;> try (exfalso; rename_i hw; first | exact Bool.noConfusion ((Go.RowKit.Hid.out hcf).symm.trans hw) | exact Bool.noConfusion (hw.symm.trans (Go.RowKit.Hid.out hcf)))) | (with_reducible refine Drawn.mk (by kernel_rfl) ?_) | (refine Run.mk ?_)))
                  all_goals (
                    refine Cend.go ?_
                    (repeat' (first | (with_reducible refine Cend.go ?_) | (with_reducible refine Step.mk True.intro ?_) | (with_reducible refine Step.mk ?_ ?_; focus (((try simp only [true_and, and_true, and_self, kmin, kmax, decide_eq_true_eq, decide_eq_false_iff_not, castD_self, castL_self, List.length_cons, List.length_nil, List.length_append, Int.natCast_add] at *) <;> omega))) | (with_reducible refine Step.mk ?_ ?_) | (with_reducible refine Way.t1 ?_) | (with_reducible refine Way.f1 ?_) | ((with_reducible refine Way.dec (fun zz => ?_) (fun zz => ?_)) <;> (try simp only [castD_self, castL_self] at zz) <;> try (exfalso; first | omega | contradiction)) | (with_reducible refine Way.nt ?_) | ((with_reducible refine Way.mk (fun _ => ?_) (fun _ => ?_)) <;> try (exfalso; rename_i hw; first | exact Bool.noConfusion ((Go.RowKit.Hid.out hcf).symm.trans hw) | exact Bool.noConfusion (hw.symm.trans (Go.RowKit.Hid.out hcf)))) | (with_reducible refine Drawn.mk (by kernel_rfl) ?_) | (refine Run.mk ?_)))
                    all_goals first
                      | exact ⟨hpo.out, hpl⟩
                      | exact ⟨hqo.out, hql⟩
                      | exact ⟨hra.out, hbl, hil⟩
                      | exact ⟨hrb.out, hbl, hjl⟩
                      | exact hcl
                      | (refine Back.by (k + 1, (R.getD ((k : Int)).toNat tRg.dflt).2.1, D, none) ?_ ?_ ?_; (focus (dsimp only [mgH]; (focus (refine Wk.keep ?_ ?_ <;> repeat' (first | exact True.intro | refine And.intro rfl ?_ | refine And.intro (congrArg (fun z : Int => AV.v false [Lf.d (.int .i64) z]) (by first | omega | (simp only [Int.natCast_add, List.length_cons, List.length_append, List.length_nil]; omega))) ?_ | refine And.intro ?_ ?_))); done)); (focus (refine ⟨hlt, hrg.out, hmN.out, ?_, ?_, ?_⟩; (focus (show List.length _ ≤ 2 * (k + 1); (try simp only [List.length_append, List.length_cons, List.length_nil]); omega)); (focus (intro z; exact hcf0.out rfl)); (focus (intro L z; cases z)))); (focus (show R.length - (k + 1) < R.length - k; omega))))
                · skip
                  have e1 : plF (D, none) (List.drop a0.toNat (List.take (R.getD ((k : Int)).toNat tRg.dflt).1.toNat b)) = (D, none) := if_pos hpre
                  have e2 : mgS b p q (R.getD ((k : Int)).toNat tRg.dflt).1 (R.getD ((k : Int)).toNat tRg.dflt).2.1 (D, none) = (D, some (raw b (R.getD ((k : Int)).toNat tRg.dflt).2.1 (R.getD ((k : Int)).toNat tRg.dflt).1 (inR p (R.getD ((k : Int)).toNat tRg.dflt).1 (R.getD ((k : Int)).toNat tRg.dflt).2.1))) := (if_pos (.inl hT)).trans (if_neg hL)
                  rw [e1, e2] at hmN
                  replace hmN := Lib.hid hmN
                  clear e1 e2
                  dsimp only [mgH]
                  (repeat' (first | (with_reducible refine Step.mk True.intro ?_) | (with_reducible refine Step.mk ?_ ?_; focus (((try simp only [true_and, and_true, and_self, kmin, kmax, decide_eq_true_eq, decide_eq_false_iff_not, castD_self, castL_self, List.length_cons, List.length_nil, List.length_append, Int.natCast_add] at *) <;> omega))) | (with_reducible refine Step.mk ?_ ?_) | (with_reducible refine Way.t1 ?_) | (with_reducible refine Way.f1 ?_) | ((with_reducible refine Way.dec (fun zz => ?_) (fun zz => ?_)) <;> (try simp only [castD_self, castL_self] at zz) <;> try (exfalso; first | omega | contradiction)) | (with_reducible refine Way.nt ?_) | ((with_reducible refine Way.mk (fun _ => ?_) (fun _ => ?_)) <;> try (exfalso; rename_i hw; first | exact Bool.noConfusion ((Go.RowKit.Hid.out hcf).symm.trans hw) | exact Bool.noConfusion (hw.symm.trans (Go.RowKit.Hid.out hcf)))) | (with_reducible refine Drawn.mk (by kernel_rfl) ?_) | (refine Run.mk ?_)))
                  all_goals (
                    refine Cend.go ?_
                    (repeat' (first | (with_reducible refine Cend.go ?_) | (with_reducible refine Step.mk True.intro ?_) | (with_reducible refine Step.mk ?_ ?_; focus (((try simp only [true_and, and_true, and_self, kmin, kmax, decide_eq_true_eq, decide_eq_false_iff_not, castD_self, castL_self, List.length_cons, List.length_nil, List.length_append, Int.natCast_add] at *) <;> omega))) | (with_reducible refine Step.mk ?_ ?_) | (with_reducible refine Way.t1 ?_) | (with_reducible refine Way.f1 ?_) | ((with_reducible refine Way.dec (fun zz => ?_) (fun zz => ?_)) <;> (try simp only [castD_self, castL_self] at zz) <;> try (exfalso; first | omega | contradiction)) | (with_reducible refine Way.nt ?_) | ((with_reducible refine Way.mk (fun _ => ?_) (fun _ => ?_)) <;> try (exfalso; rename_i hw; first | exact Bool.noConfusion ((Go.RowKit.Hid.out hcf).symm.trans hw) | exact Bool.noConfusion (hw.symm.trans (Go.RowKit.Hid.out hcf)))) | (with_reducible refine Drawn.mk (by kernel_rfl) ?_) | (refine Run.mk ?_)))
                    all_goals first
                      | exact ⟨hpo.out, hpl⟩
                      | exact ⟨hqo.out, hql⟩
                      | exact ⟨hra.out, hbl, hil⟩
                      | exact ⟨hrb.out, hbl, hjl⟩
                      | exact hcl
                      | (refine Back.by (k + 1, (R.getD ((k : Int)).toNat tRg.dflt).2.1, D, some (raw b (R.getD ((k : Int)).toNat tRg.dflt).2.1 (R.getD ((k : Int)).toNat tRg.dflt).1 (inR p (R.getD ((k : Int)).toNat tRg.dflt).1 (R.getD ((k : Int)).toNat tRg.dflt).2.1))) ?_ ?_ ?_; (focus (dsimp only [mgH]; (focus (refine Wk.ren [(91, 109034), (92, 109054)] rfl ?_ ?_ <;> repeat' (first | exact True.intro | refine And.intro rfl ?_ | refine And.intro (congrArg (fun z : Int => AV.v false [Lf.d (.int .i64) z]) (by first | omega | (simp only [Int.natCast_add, List.length_cons, List.length_append, List.length_nil]; omega))) ?_ | refine And.intro ?_ ?_))); done)); (focus (refine ⟨hlt, hrg.out, hmN.out, ?_, ?_, ?_⟩; (focus (show List.length _ ≤ 2 * (k + 1); (try simp only [List.length_append, List.length_cons, List.length_nil]); omega)); (focus (intro z; cases z)); (focus (intro L z; cases z; (try simp only [List.length_append]); omega)))); (focus (show R.length - (k + 1) < R.length - k; omega))))
              · by_cases hE : (raw b (R.getD ((k : Int)).toNat tRg.dflt).2.1 (R.getD ((k : Int)).toNat tRg.dflt).1 (inR p (R.getD ((k : Int)).toNat tRg.dflt).1 (R.getD ((k : Int)).toNat tRg.dflt).2.1)) = (raw b (R.getD ((k : Int)).toNat tRg.dflt).2.1 (R.getD ((k : Int)).toNat tRg.dflt).1 (inR q (R.getD ((k : Int)).toNat tRg.dflt).1 (R.getD ((k : Int)).toNat tRg.dflt).2.1))
                · by_cases hL : (raw b (R.getD ((k : Int)).toNat tRg.dflt).2.1 (R.getD ((k : Int)).toNat tRg.dflt).1 (inR p (R.getD ((k : Int)).toNat tRg.dflt).1 (R.getD ((k : Int)).toNat tRg.dflt).2.1)).length = 0
                  · skip
                    have e1 : plF (D, none) (List.drop a0.toNat (List.take (R.getD ((k : Int)).toNat tRg.dflt).1.toNat b)) = (D, none) := if_pos hpre
                    have e2 : mgS b p q (R.getD ((k : Int)).toNat tRg.dflt).1 (R.getD ((k : Int)).toNat tRg.dflt).2.1 (D, none) = (D, none) := (if_pos (.inr hE)).trans (if_pos hL)
                    rw [e1, e2] at hmN
                    replace hmN := Lib.hid hmN
                    clear e1 e2
                    dsimp only [mgH]
                    (repeat' (first | (with_reducible refine Step.mk True.intro ?_) | (with_reducible refine Step.mk ?_ ?_; focus (((try simp only [true_and, and_true, and_self, kmin, kmax, decide_eq_true_eq, decide_eq_false_iff_not, castD_self, castL_self, List.length_cons, List.length_nil, List.length_append, Int.natCast_add] at *) <;> omega))) | (with_reducible refine Step.mk ?_ ?_) | (with_reducible refine Way.t1 ?_) | (with_reducible refine Way.f1 ?_) | ((with_reducible refine Way.dec (fun zz => ?_) (fun zz => ?_)) <;> (try simp only [castD_self, castL_self] at zz) <;> try (exfalso; first | omega | contradiction)) | (with_reducible refine Way.nt ?_) | ((with_reducible refine Way.mk (fun _ => ?_) (fun _ => ?_)) <;> try (exfalso; rename_i hw; first | exact Bool.noConfusion ((Go.RowKit.Hid.out hcf).symm.trans hw) | exact Bool.noConfusion (hw.symm.trans (Go.RowKit.Hid.out hcf)))) | (with_reducible refine Drawn.mk (by kernel_rfl) ?_) | (refine Run.mk ?_)))
                    all_goals (
                      refine Cend.go ?_
                      (repeat' (first | (with_reducible refine Cend.go ?_) | (with_reducible refine Step.mk True.intro ?_) | (with_reducible refine Step.mk ?_ ?_; focus (((try simp only [true_and, and_true, and_self, kmin, kmax, decide_eq_true_eq, decide_eq_false_iff_not, castD_self, castL_self, List.length_cons, List.length_nil, List.length_append, Int.natCast_add] at *) <;> omega))) | (with_reducible refine Step.mk ?_ ?_) | (with_reducible refine Way.t1 ?_) | (with_reducible refine Way.f1 ?_) | ((with_reducible refine Way.dec (fun zz => ?_) (fun zz => ?_)) <;> (try simp only [castD_self, castL_self] at zz) <;> try (exfalso; first | omega | contradiction)) | (with_reducible refine Way.nt ?_) | ((with_reducible refine Way.mk (fun _ => ?_) (fun _ => ?_)) <;> try (exfalso; rename_i hw; first | exact Bool.noConfusion ((Go.RowKit.Hid.out hcf).symm.trans hw) | exact Bool.noConfusion (hw.symm.trans (Go.RowKit.Hid.out hcf)))) | (with_reducible refine Drawn.mk (by kernel_rfl) ?_) | (refine Run.mk ?_)))
                      all_goals first
                        | exact ⟨hpo.out, hpl⟩
                        | exact ⟨hqo.out, hql⟩
                        | exact ⟨hra.out, hbl, hil⟩
                        | exact ⟨hrb.out, hbl, hjl⟩
                        | exact hcl
                        | exact absurd hE (by assumption)
                        | (refine Back.by (k + 1, (R.getD ((k : Int)).toNat tRg.dflt).2.1, D, none) ?_ ?_ ?_; (focus (dsimp only [mgH]; (focus (refine Wk.keep ?_ ?_ <;> repeat' (first | exact True.intro | refine And.intro rfl ?_ | refine And.intro (congrArg (fun z : Int => AV.v false [Lf.d (.int .i64) z]) (by first | omega | (simp only [Int.natCast_add, List.length_cons, List.length_append, List.length_nil]; omega))) ?_ | refine And.intro ?_ ?_))); done)); (focus (refine ⟨hlt, hrg.out, hmN.out, ?_, ?_, ?_⟩; (focus (show List.length _ ≤ 2 * (k + 1); (try simp only [List.length_append, List.length_cons, List.length_nil]); omega)); (focus (intro z; exact hcf0.out rfl)); (focus (intro L z; cases z)))); (focus (show R.length - (k + 1) < R.length - k; omega))))
                  · skip
                    have e1 : plF (D, none) (List.drop a0.toNat (List.take (R.getD ((k : Int)).toNat tRg.dflt).1.toNat b)) = (D, none) := if_pos hpre
                    have e2 : mgS b p q (R.getD ((k : Int)).toNat tRg.dflt).1 (R.getD ((k : Int)).toNat tRg.dflt).2.1 (D, none) = (D, some (raw b (R.getD ((k : Int)).toNat tRg.dflt).2.1 (R.getD ((k : Int)).toNat tRg.dflt).1 (inR p (R.getD ((k : Int)).toNat tRg.dflt).1 (R.getD ((k : Int)).toNat tRg.dflt).2.1))) := (if_pos (.inr hE)).trans (if_neg hL)
                    rw [e1, e2] at hmN
                    replace hmN := Lib.hid hmN
                    clear e1 e2
                    dsimp only [mgH]
                    (repeat' (first | (with_reducible refine Step.mk True.intro ?_) | (with_reducible refine Step.mk ?_ ?_; focus (((try simp only [true_and, and_true, and_self, kmin, kmax, decide_eq_true_eq, decide_eq_false_iff_not, castD_self, castL_self, List.length_cons, List.length_nil, List.length_append, Int.natCast_add] at *) <;> omega))) | (with_reducible refine Step.mk ?_ ?_) | (with_reducible refine Way.t1 ?_) | (with_reducible refine Way.f1 ?_) | ((with_reducible refine Way.dec (fun zz => ?_) (fun zz => ?_)) <;> (try simp only [castD_self, castL_self] at zz) <;> try (exfalso; first | omega | contradiction)) | (with_reducible refine Way.nt ?_) | ((with_reducible refine Way.mk (fun _ => ?_) (fun _ => ?_)) <;> try (exfalso; rename_i hw; first | exact Bool.noConfusion ((Go.RowKit.Hid.out hcf).symm.trans hw) | exact Bool.noConfusion (hw.symm.trans (Go.RowKit.Hid.out hcf)))) | (with_reducible refine Drawn.mk (by kernel_rfl) ?_) | (refine Run.mk ?_)))
                    all_goals (
                      refine Cend.go ?_
                      (repeat' (first | (with_reducible refine Cend.go ?_) | (with_reducible refine Step.mk True.intro ?_) | (with_reducible refine Step.mk ?_ ?_; focus (((try simp only [true_and, and_true, and_self, kmin, kmax, decide_eq_true_eq, decide_eq_false_iff_not, castD_self, castL_self, List.length_cons, List.length_nil, List.length_append, Int.natCast_add] at *) <;> omega))) | (with_reducible refine Step.mk ?_ ?_) | (with_reducible refine Way.t1 ?_) | (with_reducible refine Way.f1 ?_) | ((with_reducible refine Way.dec (fun zz => ?_) (fun zz => ?_)) <;> (try simp only [castD_self, castL_self] at zz) <;> try (exfalso; first | omega | contradiction)) | (with_reducible refine Way.nt ?_) | ((with_reducible refine Way.mk (fun _ => ?_) (fun _ => ?_)) <;> try (exfalso; rename_i hw; first | exact Bool.noConfusion ((Go.RowKit.Hid.out hcf).symm.trans hw) | exact Bool.noConfusion (hw.symm.trans (Go.RowKit.Hid.out hcf)))) | (with_reducible refine Drawn.mk (by kernel_rfl) ?_) | (refine Run.mk ?_)))
                      all_goals first
                        | exact ⟨hpo.out, hpl⟩
                        | exact ⟨hqo.out, hql⟩
                        | exact ⟨hra.out, hbl, hil⟩
                        | exact ⟨hrb.out, hbl, hjl⟩
                        | exact hcl
                        | exact absurd hE (by assumption)
                        | (refine Back.by (k + 1, (R.getD ((k : Int)).toNat tRg.dflt).2.1, D, some (raw b (R.getD ((k : Int)).toNat tRg.dflt).2.1 (R.getD ((k : Int)).toNat tRg.dflt).1 (inR p (R.getD ((k : Int)).toNat tRg.dflt).1 (R.getD ((k : Int)).toNat tRg.dflt).2.1))) ?_ ?_ ?_; (focus (dsimp only [mgH]; (focus (refine Wk.ren [(91, 109034), (92, 109054)] rfl ?_ ?_ <;> repeat' (first | exact True.intro | refine And.intro rfl ?_ | refine And.intro (congrArg (fun z : Int => AV.v false [Lf.d (.int .i64) z]) (by first | omega | (simp only [Int.natCast_add, List.length_cons, List.length_append, List.length_nil]; omega))) ?_ | refine And.intro ?_ ?_))); done)); (focus (refine ⟨hlt, hrg.out, hmN.out, ?_, ?_, ?_⟩; (focus (show List.length _ ≤ 2 * (k + 1); (try simp only [List.length_append, List.length_cons, List.length_nil]); omega)); (focus (intro z; cases z)); (focus (intro L z; cases z; (try simp only [List.length_append]); omega)))); (focus (show R.length - (k + 1) < R.length - k; omega))))
                · by_cases hM : (inR p (R.getD ((k : Int)).toNat tRg.dflt).1 (R.getD ((k : Int)).toNat tRg.dflt).2.1).length = 0
                  · by_cases hL : (raw b (R.getD ((k : Int)).toNat tRg.dflt).2.1 (R.getD ((k : Int)).toNat tRg.dflt).1 (inR q (R.getD ((k : Int)).toNat tRg.dflt).1 (R.getD ((k : Int)).toNat tRg.dflt).2.1)).length = 0
                    · skip
                      have e1 : plF (D, none) (List.drop a0.toNat (List.take (R.getD ((k : Int)).toNat tRg.dflt).1.toNat b)) = (D, none) := if_pos hpre
                      have e2 : mgS b p q (R.getD ((k : Int)).toNat tRg.dflt).1 (R.getD ((k : Int)).toNat tRg.dflt).2.1 (D, none) = (D, none) := ((if_neg (fun z => z.elim hT hE)).trans (if_pos hM)).trans (if_pos hL)
                      rw [e1, e2] at hmN
                      replace hmN := Lib.hid hmN
                      clear e1 e2
                      dsimp only [mgH]
                      (repeat' (first | (with_reducible refine Step.mk True.intro ?_) | (with_reducible refine Step.mk ?_ ?_; focus (((try simp only [true_and, and_true, and_self, kmin, kmax, decide_eq_true_eq, decide_eq_false_iff_not, castD_self, castL_self, List.length_cons, List.length_nil, List.length_append, Int.natCast_add] at *) <;> omega))) | (with_reducible refine Step.mk ?_ ?_) | (with_reducible refine Way.t1 ?_) | (with_reducible refine Way.f1 ?_) | ((with_reducible refine Way.dec (fun zz => ?_) (fun zz => ?_)) <;> (try simp only [castD_self, castL_self] at zz) <;> try (exfalso; first | omega | contradiction)) | (with_reducible refine Way.nt ?_) | ((with_reducible refine Way.mk (fun _ => ?_) (fun _ => ?_)) <;> try (exfalso; rename_i hw; first | exact Bool.noConfusion ((Go.RowKit.Hid.out hcf).symm.trans hw) | exact Bool.noConfusion (hw.symm.trans (Go.RowKit.Hid.out hcf)))) | (with_reducible refine Drawn.mk (by kernel_rfl) ?_) | (refine Run.mk ?_)))
                      all_goals (
                        refine Cend.go ?_
                        (repeat' (first | (with_reducible refine Cend.go ?_) | (with_reducible refine Step.mk True.intro ?_) | (with_reducible refine Step.mk ?_ ?_; focus (((try simp only [true_and, and_true, and_self, kmin, kmax, decide_eq_true_eq, decide_eq_false_iff_not, castD_self, castL_self, List.length_cons, List.length_nil, List.length_append, Int.natCast_add] at *) <;> omega))) | (with_reducible refine Step.mk ?_ ?_) | (with_reducible refine Way.t1 ?_) | (with_reducible refine Way.f1 ?_) | ((with_reducible refine Way.dec (fun zz => ?_) (fun zz => ?_)) <;> (try simp only [castD_self, castL_self] at zz) <;> try (exfalso; first | omega | contradiction)) | (with_reducible refine Way.nt ?_) | ((with_reducible refine Way.mk (fun _ => ?_) (fun _ => ?_)) <;> try (exfalso; rename_i hw; first | exact Bool.noConfusion ((Go.RowKit.Hid.out hcf).symm.trans hw) | exact Bool.noConfusion (hw.symm.trans (Go.RowKit.Hid.out hcf)))) | (with_reducible refine Drawn.mk (by kernel_rfl) ?_) | (refine Run.mk ?_)))
                        all_goals first
                          | exact ⟨hpo.out, hpl⟩
                          | exact ⟨hqo.out, hql⟩
                          | exact ⟨hra.out, hbl, hil⟩
                          | exact ⟨hrb.out, hbl, hjl⟩
                          | exact hcl
                          | exact absurd (by assumption) hE
                          | (refine Back.by (k + 1, (R.getD ((k : Int)).toNat tRg.dflt).2.1, D, none) ?_ ?_ ?_; (focus (dsimp only [mgH]; (focus (refine Wk.keep ?_ ?_ <;> repeat' (first | exact True.intro | refine And.intro rfl ?_ | refine And.intro (congrArg (fun z : Int => AV.v false [Lf.d (.int .i64) z]) (by first | omega | (simp only [Int.natCast_add, List.length_cons, List.length_append, List.length_nil]; omega))) ?_ | refine And.intro ?_ ?_))); done)); (focus (refine ⟨hlt, hrg.out, hmN.out, ?_, ?_, ?_⟩; (focus (show List.length _ ≤ 2 * (k + 1); (try simp only [List.length_append, List.length_cons, List.length_nil]); omega)); (focus (intro z; exact hcf0.out rfl)); (focus (intro L z; cases z)))); (focus (show R.length - (k + 1) < R.length - k; omega))))
                    · skip
                      have e1 : plF (D, none) (List.drop a0.toNat (List.take (R.getD ((k : Int)).toNat tRg.dflt).1.toNat b)) = (D, none) := if_pos hpre
                      have e2 : mgS b p q (R.getD ((k : Int)).toNat tRg.dflt).1 (R.getD ((k : Int)).toNat tRg.dflt).2.1 (D, none) = (D, some (raw b (R.getD ((k : Int)).toNat tRg.dflt).2.1 (R.getD ((k : Int)).toNat tRg.dflt).1 (inR q (R.getD ((k : Int)).toNat tRg.dflt).1 (R.getD ((k : Int)).toNat tRg.dflt).2.1))) := ((if_neg (fun z => z.elim hT hE)).trans (if_pos hM)).trans (if_neg hL)
                      rw [e1, e2] at hmN
                      replace hmN := Lib.hid hmN
                      clear e1 e2
                      dsimp only [mgH]
                      (repeat' (first | (with_reducible refine Step.mk True.intro ?_) | (with_reducible refine Step.mk ?_ ?_; focus (((try simp only [true_and, and_true, and_self, kmin, kmax, decide_eq_true_eq, decide_eq_false_iff_not, castD_self, castL_self, List.length_cons, List.length_nil, List.length_append, Int.natCast_add] at *) <;> omega))) | (with_reducible refine Step.mk ?_ ?_) | (with_reducible refine Way.t1 ?_) | (with_reducible refine Way.f1 ?_) | ((with_reducible refine Way.dec (fun zz => ?_) (fun zz => ?_)) <;> (try simp only [castD_self, castL_self] at zz) <;> try (exfalso; first | omega | contradiction)) | (with_reducible refine Way.nt ?_) | ((with_reducible refine Way.mk (fun _ => ?_) (fun _ => ?_)) <;> try (exfalso; rename_i hw; first | exact Bool.noConfusion ((Go.RowKit.Hid.out hcf).symm.trans hw) | exact Bool.noConfusion (hw.symm.trans (Go.RowKit.Hid.out hcf)))) | (with_reducible refine Drawn.mk (by kernel_rfl) ?_) | (refine Run.mk ?_)))
                      all_goals (
                        refine Cend.go ?_
                        (repeat' (first | (with_reducible refine Cend.go ?_) | (with_reducible refine Step.mk True.intro ?_) | (with_reducible refine Step.mk ?_ ?_; focus (((try simp only [true_and, and_true, and_self, kmin, kmax, decide_eq_true_eq, decide_eq_false_iff_not, castD_self, castL_self, List.length_cons, List.length_nil, List.length_append, Int.natCast_add] at *) <;> omega))) | (with_reducible refine Step.mk ?_ ?_) | (with_reducible refine Way.t1 ?_) | (with_reducible refine Way.f1 ?_) | ((with_reducible refine Way.dec (fun zz => ?_) (fun zz => ?_)) <;> (try simp only [castD_self, castL_self] at zz) <;> try (exfalso; first | omega | contradiction)) | (with_reducible refine Way.nt ?_) | ((with_reducible refine Way.mk (fun _ => ?_) (fun _ => ?_)) <;> try (exfalso; rename_i hw; first | exact Bool.noConfusion ((Go.RowKit.Hid.out hcf).symm.trans hw) | exact Bool.noConfusion (hw.symm.trans (Go.RowKit.Hid.out hcf)))) | (with_reducible refine Drawn.mk (by kernel_rfl) ?_) | (refine Run.mk ?_)))
                        all_goals first
                          | exact ⟨hpo.out, hpl⟩
                          | exact ⟨hqo.out, hql⟩
                          | exact ⟨hra.out, hbl, hil⟩
                          | exact ⟨hrb.out, hbl, hjl⟩
                          | exact hcl
                          | exact absurd (by assumption) hE
                          | (refine Back.by (k + 1, (R.getD ((k : Int)).toNat tRg.dflt).2.1, D, some (raw b (R.getD ((k : Int)).toNat tRg.dflt).2.1 (R.getD ((k : Int)).toNat tRg.dflt).1 (inR q (R.getD ((k : Int)).toNat tRg.dflt).1 (R.getD ((k : Int)).toNat tRg.dflt).2.1))) ?_ ?_ ?_; (focus (dsimp only [mgH]; (focus (refine Wk.ren [(91, 115034), (92, 115054)] rfl ?_ ?_ <;> repeat' (first | exact True.intro | refine And.intro rfl ?_ | refine And.intro (congrArg (fun z : Int => AV.v false [Lf.d (.int .i64) z]) (by first | omega | (simp only [Int.natCast_add, List.length_cons, List.length_append, List.length_nil]; omega))) ?_ | refine And.intro ?_ ?_))); done)); (focus (refine ⟨hlt, hrg.out, hmN.out, ?_, ?_, ?_⟩; (focus (show List.length _ ≤ 2 * (k + 1); (try simp only [List.length_append, List.length_cons, List.length_nil]); omega)); (focus (intro z; cases z)); (focus (intro L z; cases z; (try simp only [List.length_append]); omega)))); (focus (show R.length - (k + 1) < R.length - k; omega))))
                  · skip
                    have e1 : plF (D, none) (List.drop a0.toNat (List.take (R.getD ((k : Int)).toNat tRg.dflt).1.toNat b)) = (D, none) := if_pos hpre
                    have e2 : mgS b p q (R.getD ((k : Int)).toNat tRg.dflt).1 (R.getD ((k : Int)).toNat tRg.dflt).2.1 (D, none) = ((D ++ [(true, [], (List.drop (R.getD ((k : Int)).toNat tRg.dflt).1.toNat (List.take (R.getD ((k : Int)).toNat tRg.dflt).2.1.toNat b)), (raw b (R.getD ((k : Int)).toNat tRg.dflt).2.1 (R.getD ((k : Int)).toNat tRg.dflt).1 (inR p (R.getD ((k : Int)).toNat tRg.dflt).1 (R.getD ((k : Int)).toNat tRg.dflt).2.1)), (raw b (R.getD ((k : Int)).toNat tRg.dflt).2.1 (R.getD ((k : Int)).toNat tRg.dflt).1 (inR q (R.getD ((k : Int)).toNat tRg.dflt).1 (R.getD ((k : Int)).toNat tRg.dflt).2.1)))]), none) := (if_neg (fun z => z.elim hT hE)).trans (if_neg hM)
                    rw [e1, e2] at hmN
                    replace hmN := Lib.hid hmN
                    clear e1 e2
                    dsimp only [mgH]
                    (repeat' (first | (with_reducible refine Step.mk True.intro ?_) | (with_reducible refine Step.mk ?_ ?_; focus (((try simp only [true_and, and_true, and_self, kmin, kmax, decide_eq_true_eq, decide_eq_false_iff_not, castD_self, castL_self, List.length_cons, List.length_nil, List.length_append, Int.natCast_add] at *) <;> omega))) | (with_reducible refine Step.mk ?_ ?_) | (with_reducible refine Way.t1 ?_) | (with_reducible refine Way.f1 ?_) | ((with_reducible refine Way.dec (fun zz => ?_) (fun zz => ?_)) <;> (try simp only [castD_self, castL_self] at zz) <;> try (exfalso; first | omega | contradiction)) | (with_reducible refine Way.nt ?_) | ((with_reducible refine Way.mk (fun _ => ?_) (fun _ => ?_)) <;> try (exfalso; rename_i hw; first | exact Bool.noConfusion ((Go.RowKit.Hid.out hcf).symm.trans hw) | exact Bool.noConfusion (hw.symm.trans (Go.RowKit.Hid.out hcf)))) | (with_reducible refine Drawn.mk (by kernel_rfl) ?_) | (refine Run.mk ?_)))
                    all_goals (
                      refine Cend.go ?_
                      (repeat' (first | (with_reducible refine Cend.go ?_) | (with_reducible refine Step.mk True.intro ?_) | (with_reducible refine Step.mk ?_ ?_; focus (((try simp only [true_and, and_true, and_self, kmin, kmax, decide_eq_true_eq, decide_eq_false_iff_not, castD_self, castL_self, List.length_cons, List.length_nil, List.length_append, Int.natCast_add] at *) <;> omega))) | (with_reducible refine Step.mk ?_ ?_) | (with_reducible refine Way.t1 ?_) | (with_reducible refine Way.f1 ?_) | ((with_reducible refine Way.dec (fun zz => ?_) (fun zz => ?_)) <;> (try simp only [castD_self, castL_self] at zz) <;> try (exfalso; first | omega | contradiction)) | (with_reducible refine Way.nt ?_) | ((with_reducible refine Way.mk (fun _ => ?_) (fun _ => ?_)) <;> try (exfalso; rename_i hw; first | exact Bool.noConfusion ((Go.RowKit.Hid.out hcf).symm.trans hw) | exact Bool.noConfusion (hw.symm.trans (Go.RowKit.Hid.out hcf)))) | (with_reducible refine Drawn.mk (by kernel_rfl) ?_) | (refine Run.mk ?_)))
                      all_goals first
                        | exact ⟨hpo.out, hpl⟩
                        | exact ⟨hqo.out, hql⟩
                        | exact ⟨hra.out, hbl, hil⟩
                        | exact ⟨hrb.out, hbl, hjl⟩
                        | exact hcl
                        | exact absurd (by assumption) hE
                        | (refine Back.by (k + 1, (R.getD ((k : Int)).toNat tRg.dflt).2.1, (D ++ [(true, [], (List.drop (R.getD ((k : Int)).toNat tRg.dflt).1.toNat (List.take (R.getD ((k : Int)).toNat tRg.dflt).2.1.toNat b)), (raw b (R.getD ((k : Int)).toNat tRg.dflt).2.1 (R.getD ((k : Int)).toNat tRg.dflt).1 (inR p (R.getD ((k : Int)).toNat tRg.dflt).1 (R.getD ((k : Int)).toNat tRg.dflt).2.1)), (raw b (R.getD ((k : Int)).toNat tRg.dflt).2.1 (R.getD ((k : Int)).toNat tRg.dflt).1 (inR q (R.getD ((k : Int)).toNat tRg.dflt).1 (R.getD ((k : Int)).toNat tRg.dflt).2.1)))]), none) ?_ ?_ ?_; (focus (dsimp only [mgH]; refine Wk.trans (Wk.pack 96 (E := 40) (t := tCh) (l1 := D) (l2 := []) (x := (true, [], (List.drop (R.getD ((k : Int)).toNat tRg.dflt).1.toNat (List.take (R.getD ((k : Int)).toNat tRg.dflt).2.1.toNat b)), (raw b (R.getD ((k : Int)).toNat tRg.dflt).2.1 (R.getD ((k : Int)).toNat tRg.dflt).1 (inR p (R.getD ((k : Int)).toNat tRg.dflt).1 (R.getD ((k : Int)).toNat tRg.dflt).2.1)), (raw b (R.getD ((k : Int)).toNat tRg.dflt).2.1 (R.getD ((k : Int)).toNat tRg.dflt).1 (inR q (R.getD ((k : Int)).toNat tRg.dflt).1 (R.getD ((k : Int)).toNat tRg.dflt).2.1)))) (hl' := [.put 14 (.box 53 [.o 96]), .put 7 (.box 25 [.d (.int .i64) 0, .d (.int .i64) 0]), .put 10 (.box 44 [.d (.slice tHk) p]), .put 12 (.box 44 [.d (.slice tHk) q])]) rfl rfl (by repeat' (first | exact True.intro | refine And.intro rfl ?_)) rfl rfl) ?_; (focus (refine Wk.ren [(91, 96)] rfl ?_ ?_ <;> repeat' (first | exact True.intro | refine And.intro rfl ?_ | refine And.intro (congrArg (fun z : Int => AV.v false [Lf.d (.int .i64) z]) (by first | omega | (simp only [Int.natCast_add, List.length_cons, List.length_append, List.length_nil]; omega))) ?_ | refine And.intro ?_ ?_))); done)); (focus (refine ⟨hlt, hrg.out, hmN.out, ?_, ?_, ?_⟩; (focus (show List.length _ ≤ 2 * (k + 1); (try simp only [List.length_append, List.length_cons, List.length_nil]); omega)); (focus (intro _ _; exact congrArg Prod.fst (getD_last _ _ _))); (focus (intro L z; cases z)))); (focus (show R.length - (k + 1) < R.length - k; omega))))
            · skip
              by_cases hT : (inR q (R.getD ((k : Int)).toNat tRg.dflt).1 (R.getD ((k : Int)).toNat tRg.dflt).2.1).length = 0
              · by_cases hL : (raw b (R.getD ((k : Int)).toNat tRg.dflt).2.1 (R.getD ((k : Int)).toNat tRg.dflt).1 (inR p (R.getD ((k : Int)).toNat tRg.dflt).1 (R.getD ((k : Int)).toNat tRg.dflt).2.1)).length = 0
                · skip
                  have e1 : plF (D, none) (List.drop a0.toNat (List.take (R.getD ((k : Int)).toNat tRg.dflt).1.toNat b)) = (D, some (List.drop a0.toNat (List.take (R.getD ((k : Int)).toNat tRg.dflt).1.toNat b))) := if_neg hpre
                  have e2 : mgS b p q (R.getD ((k : Int)).toNat tRg.dflt).1 (R.getD ((k : Int)).toNat tRg.dflt).2.1 (D, some (List.drop a0.toNat (List.take (R.getD ((k : Int)).toNat tRg.dflt).1.toNat b))) = (D, some (List.drop a0.toNat (List.take (R.getD ((k : Int)).toNat tRg.dflt).1.toNat b))) := (if_pos (.inl hT)).trans (if_pos hL)
                  rw [e1, e2] at hmN
                  replace hmN := Lib.hid hmN
                  clear e1 e2
                  dsimp only [mgH]
                  (repeat' (first | (with_reducible refine Step.mk True.intro ?_) | (with_reducible refine Step.mk ?_ ?_; focus (((try simp only [true_and, and_true, and_self, kmin, kmax, decide_eq_true_eq, decide_eq_false_iff_not, castD_self, castL_self, List.length_cons, List.length_nil, List.length_append, Int.natCast_add] at *) <;> omega))) | (with_reducible refine Step.mk ?_ ?_) | (with_reducible refine Way.t1 ?_) | (with_reducible refine Way.f1 ?_) | ((with_reducible refine Way.dec (fun zz => ?_) (fun zz => ?_)) <;> (try simp only [castD_self, castL_self] at zz) <;> try (exfalso; first | omega | contradiction)) | (with_reducible refine Way.nt ?_) | ((with_reducible refine Way.mk (fun _ => ?_) (fun _ => ?_)) <;> try (exfalso; rename_i hw; first | exact Bool.noConfusion ((Go.RowKit.Hid.out hcf).symm.trans hw) | exact Bool.noConfusion (hw.symm.trans (Go.RowKit.Hid.out hcf)))) | (with_reducible refine Drawn.mk (by kernel_rfl) ?_) | (refine Run.mk ?_)))
                  all_goals (
                    refine Cend.go ?_
                    (repeat' (first | (with_reducible refine Cend.go ?_) | (with_reducible refine Step.mk True.intro ?_) | (with_reducible refine Step.mk ?_ ?_; focus (((try simp only [true_and, and_true, and_self, kmin, kmax, decide_eq_true_eq, decide_eq_false_iff_not, castD_self, castL_self, List.length_cons, List.length_nil, List.length_append, Int.natCast_add] at *) <;> omega))) | (with_reducible refine Step.mk ?_ ?_) | (with_reducible refine Way.t1 ?_) | (with_reducible refine Way.f1 ?_) | ((with_reducible refine Way.dec (fun zz => ?_) (fun zz => ?_)) <;> (try simp only [castD_self, castL_self] at zz) <;> try (exfalso; first | omega | contradiction)) | (with_reducible refine Way.nt ?_) | ((with_reducible refine Way.mk (fun _ => ?_) (fun _ => ?_)) <;> try (exfalso; rename_i hw; first | exact Bool.noConfusion ((Go.RowKit.Hid.out hcf).symm.trans hw) | exact Bool.noConfusion (hw.symm.trans (Go.RowKit.Hid.out hcf)))) | (with_reducible refine Drawn.mk (by kernel_rfl) ?_) | (refine Run.mk ?_)))
                    all_goals first
                      | exact ⟨hpo.out, hpl⟩
                      | exact ⟨hqo.out, hql⟩
                      | exact ⟨hra.out, hbl, hil⟩
                      | exact ⟨hrb.out, hbl, hjl⟩
                      | exact hcl
                      | (refine Back.by (k + 1, (R.getD ((k : Int)).toNat tRg.dflt).2.1, D, some (List.drop a0.toNat (List.take (R.getD ((k : Int)).toNat tRg.dflt).1.toNat b))) ?_ ?_ ?_; (focus (dsimp only [mgH]; (focus (refine Wk.ren [(91, 61034), (92, 61054)] rfl ?_ ?_ <;> repeat' (first | exact True.intro | refine And.intro rfl ?_ | refine And.intro (congrArg (fun z : Int => AV.v false [Lf.d (.int .i64) z]) (by first | omega | (simp only [Int.natCast_add, List.length_cons, List.length_append, List.length_nil]; omega))) ?_ | refine And.intro ?_ ?_))); done)); (focus (refine ⟨hlt, hrg.out, hmN.out, ?_, ?_, ?_⟩; (focus (show List.length _ ≤ 2 * (k + 1); (try simp only [List.length_append, List.length_cons, List.length_nil]); omega)); (focus (intro z; cases z)); (focus (intro L z; cases z; (try simp only [List.length_append]); omega)))); (focus (show R.length - (k + 1) < R.length - k; omega))))
                · skip
                  have e1 : plF (D, none) (List.drop a0.toNat (List.take (R.getD ((k : Int)).toNat tRg.dflt).1.toNat b)) = (D, some (List.drop a0.toNat (List.take (R.getD ((k : Int)).toNat tRg.dflt).1.toNat b))) := if_neg hpre
                  have e2 : mgS b p q (R.getD ((k : Int)).toNat tRg.dflt).1 (R.getD ((k : Int)).toNat tRg.dflt).2.1 (D, some (List.drop a0.toNat (List.take (R.getD ((k : Int)).toNat tRg.dflt).1.toNat b))) = (D, some ((List.drop a0.toNat (List.take (R.getD ((k : Int)).toNat tRg.dflt).1.toNat b)) ++ (raw b (R.getD ((k : Int)).toNat tRg.dflt).2.1 (R.getD ((k : Int)).toNat tRg.dflt).1 (inR p (R.getD ((k : Int)).toNat tRg.dflt).1 (R.getD ((k : Int)).toNat tRg.dflt).2.1)))) := (if_pos (.inl hT)).trans (if_neg hL)
                  rw [e1, e2] at hmN
                  replace hmN := Lib.hid hmN
                  clear e1 e2
                  dsimp only [mgH]
                  (repeat' (first | (with_reducible refine Step.mk True.intro ?_) | (with_reducible refine Step.mk ?_ ?_; focus (((try simp only [true_and, and_true, and_self, kmin, kmax, decide_eq_true_eq, decide_eq_false_iff_not, castD_self, castL_self, List.length_cons, List.length_nil, List.length_append, Int.natCast_add] at *) <;> omega))) | (with_reducible refine Step.mk ?_ ?_) | (with_reducible refine Way.t1 ?_) | (with_reducible refine Way.f1 ?_) | ((with_reducible refine Way.dec (fun zz => ?_) (fun zz => ?_)) <;> (try simp only [castD_self, castL_self] at zz) <;> try (exfalso; first | omega | contradiction)) | (with_reducible refine Way.nt ?_) | ((with_reducible refine Way.mk (fun _ => ?_) (fun _ => ?_)) <;> try (exfalso; rename_i hw; first | exact Bool.noConfusion ((Go.RowKit.Hid.out hcf).symm.trans hw) | exact Bool.noConfusion (hw.symm.trans (Go.RowKit.Hid.out hcf)))) | (with_reducible refine Drawn.mk (by kernel_rfl) ?_) | (refine Run.mk ?_)))
                  all_goals (
                    refine Cend.go ?_
                    (repeat' (first | (with_reducible refine Cend.go ?_) | (with_reducible refine Step.mk True.intro ?_) | (with_reducible refine Step.mk ?_ ?_; focus (((try simp only [true_and, and_true, and_self, kmin, kmax, decide_eq_true_eq, decide_eq_false_iff_not, castD_self, castL_self, List.length_cons, List.length_nil, List.length_append, Int.natCast_add] at *) <;> omega))) | (with_reducible refine Step.mk ?_ ?_) | (with_reducible refine Way.t1 ?_) | (with_reducible refine Way.f1 ?_) | ((with_reducible refine Way.dec (fun zz => ?_) (fun zz => ?_)) <;> (try simp only [castD_self, castL_self] at zz) <;> try (exfalso; first | omega | contradiction)) | (with_reducible refine Way.nt ?_) | ((with_reducible refine Way.mk (fun _ => ?_) (fun _ => ?_)) <;> try (exfalso; rename_i hw; first | exact Bool.noConfusion ((Go.RowKit.Hid.out hcf).symm.trans hw) | exact Bool.noConfusion (hw.symm.trans (Go.RowKit.Hid.out hcf)))) | (with_reducible refine Drawn.mk (by kernel_rfl) ?_) | (refine Run.mk ?_)))
                    all_goals first
                      | exact ⟨hpo.out, hpl⟩
                      | exact ⟨hqo.out, hql⟩
                      | exact ⟨hra.out, hbl, hil⟩
                      | exact ⟨hrb.out, hbl, hjl⟩
                      | exact hcl
                      | (refine Back.by (k + 1, (R.getD ((k : Int)).toNat tRg.dflt).2.1, D, some ((List.drop a0.toNat (List.take (R.getD ((k : Int)).toNat tRg.dflt).1.toNat b)) ++ (raw b (R.getD ((k : Int)).toNat tRg.dflt).2.1 (R.getD ((k : Int)).toNat tRg.dflt).1 (inR p (R.getD ((k : Int)).toNat tRg.dflt).1 (R.getD ((k : Int)).toNat tRg.dflt).2.1)))) ?_ ?_ ?_; (focus (dsimp only [mgH]; (focus (refine Wk.ren [(91, 61034), (92, 109054)] rfl ?_ ?_ <;> repeat' (first | exact True.intro | refine And.intro rfl ?_ | refine And.intro (congrArg (fun z : Int => AV.v false [Lf.d (.int .i64) z]) (by first | omega | (simp only [Int.natCast_add, List.length_cons, List.length_append, List.length_nil]; omega))) ?_ | refine And.intro ?_ ?_))); done)); (focus (refine ⟨hlt, hrg.out, hmN.out, ?_, ?_, ?_⟩; (focus (show List.length _ ≤ 2 * (k + 1); (try simp only [List.length_append, List.length_cons, List.length_nil]); omega)); (focus (intro z; cases z)); (focus (intro L z; cases z; (try simp only [List.length_append]); omega)))); (focus (show R.length - (k + 1) < R.length - k; omega))))
              · by_cases hE : (raw b (R.getD ((k : Int)).toNat tRg.dflt).2.1 (R.getD ((k : Int)).toNat tRg.dflt).1 (inR p (R.getD ((k : Int)).toNat tRg.dflt).1 (R.getD ((k : Int)).toNat tRg.dflt).2.1)) = (raw b (R.getD ((k : Int)).toNat tRg.dflt).2.1 (R.getD ((k : Int)).toNat tRg.dflt).1 (inR q (R.getD ((k : Int)).toNat tRg.dflt).1 (R.getD ((k : Int)).toNat tRg.dflt).2.1))
                · by_cases hL : (raw b (R.getD ((k : Int)).toNat tRg.dflt).2.1 (R.getD ((k : Int)).toNat tRg.dflt).1 (inR p (R.getD ((k : Int)).toNat tRg.dflt).1 (R.getD ((k : Int)).toNat tRg.dflt).2.1)).length = 0
                  · skip
                    have e1 : plF (D, none) (List.drop a0.toNat (List.take (R.getD ((k : Int)).toNat tRg.dflt).1.toNat b)) = (D, some (List.drop a0.toNat (List.take (R.getD ((k : Int)).toNat tRg.dflt).1.toNat b))) := if_neg hpre
                    have e2 : mgS b p q (R.getD ((k : Int)).toNat tRg.dflt).1 (R.getD ((k : Int)).toNat tRg.dflt).2.1 (D, some (List.drop a0.toNat (List.take (R.getD ((k : Int)).toNat tRg.dflt).1.toNat b))) = (D, some (List.drop a0.toNat (List.take (R.getD ((k : Int)).toNat tRg.dflt).1.toNat b))) := (if_pos (.inr hE)).trans (if_pos hL)
                    rw [e1, e2] at hmN
                    replace hmN := Lib.hid hmN
                    clear e1 e2
                    dsimp only [mgH]
                    (repeat' (first | (with_reducible refine Step.mk True.intro ?_) | (with_reducible refine Step.mk ?_ ?_; focus (((try simp only [true_and, and_true, and_self, kmin, kmax, decide_eq_true_eq, decide_eq_false_iff_not, castD_self, castL_self, List.length_cons, List.length_nil, List.length_append, Int.natCast_add] at *) <;> omega))) | (with_reducible refine Step.mk ?_ ?_) | (with_reducible refine Way.t1 ?_) | (with_reducible refine Way.f1 ?_) | ((with_reducible refine Way.dec (fun zz => ?_) (fun zz => ?_)) <;> (try simp only [castD_self, castL_self] at zz) <;> try (exfalso; first | omega | contradiction)) | (with_reducible refine Way.nt ?_) | ((with_reducible refine Way.mk (fun _ => ?_) (fun _ => ?_)) <;> try (exfalso; rename_i hw; first | exact Bool.noConfusion ((Go.RowKit.Hid.out hcf).symm.trans hw) | exact Bool.noConfusion (hw.symm.trans (Go.RowKit.Hid.out hcf)))) | (with_reducible refine Drawn.mk (by kernel_rfl) ?_) | (refine Run.mk ?_)))
                    all_goals (
                      refine Cend.go ?_
                      (repeat' (first | (with_reducible refine Cend.go ?_) | (with_reducible refine Step.mk True.intro ?_) | (with_reducible refine Step.mk ?_ ?_; focus (((try simp only [true_and, and_true, and_self, kmin, kmax, decide_eq_true_eq, decide_eq_false_iff_not, castD_self, castL_self, List.length_cons, List.length_nil, List.length_append, Int.natCast_add] at *) <;> omega))) | (with_reducible refine Step.mk ?_ ?_) | (with_reducible refine Way.t1 ?_) | (with_reducible refine Way.f1 ?_) | ((with_reducible refine Way.dec (fun zz => ?_) (fun zz => ?_)) <;> (try simp only [castD_self, castL_self] at zz) <;> try (exfalso; first | omega | contradiction)) | (with_reducible refine Way.nt ?_) | ((with_reducible refine Way.mk (fun _ => ?_) (fun _ => ?_)) <;> try (exfalso; rename_i hw; first | exact Bool.noConfusion ((Go.RowKit.Hid.out hcf).symm.trans hw) | exact Bool.noConfusion (hw.symm.trans (Go.RowKit.Hid.out hcf)))) | (with_reducible refine Drawn.mk (by kernel_rfl) ?_) | (refine Run.mk ?_)))
                      all_goals first
                        | exact ⟨hpo.out, hpl⟩
                        | exact ⟨hqo.out, hql⟩
                        | exact ⟨hra.out, hbl, hil⟩
                        | exact ⟨hrb.out, hbl, hjl⟩
                        | exact hcl
                        | exact absurd hE (by assumption)
                        | (refine Back.by (k + 1, (R.getD ((k : Int)).toNat tRg.dflt).2.1, D, some (List.drop a0.toNat (List.take (R.getD ((k : Int)).toNat tRg.dflt).1.toNat b))) ?_ ?_ ?_; (focus (dsimp only [mgH]; (focus (refine Wk.ren [(91, 61034), (92, 61054)] rfl ?_ ?_ <;> repeat' (first | exact True.intro | refine And.intro rfl ?_ | refine And.intro (congrArg (fun z : Int => AV.v false [Lf.d (.int .i64) z]) (by first | omega | (simp only [Int.natCast_add, List.length_cons, List.length_append, List.length_nil]; omega))) ?_ | refine And.intro ?_ ?_))); done)); (focus (refine ⟨hlt, hrg.out, hmN.out, ?_, ?_, ?_⟩; (focus (show List.length _ ≤ 2 * (k + 1); (try simp only [List.length_append, List.length_cons, List.length_nil]); omega)); (focus (intro z; cases z)); (focus (intro L z; cases z; (try simp only [List.length_append]); omega)))); (focus (show R.length - (k + 1) < R.length - k; omega))))
                  · skip
                    have e1 : plF (D, none) (List.drop a0.toNat (List.take (R.getD ((k : Int)).toNat tRg.dflt).1.toNat b)) = (D, some (List.drop a0.toNat (List.take (R.getD ((k : Int)).toNat tRg.dflt).1.toNat b))) := if_neg hpre
                    have e2 : mgS b p q (R.getD ((k : Int)).toNat tRg.dflt).1 (R.getD ((k : Int)).toNat tRg.dflt).2.1 (D, some (List.drop a0.toNat (List.take (R.getD ((k : Int)).toNat tRg.dflt).1.toNat b))) = (D, some ((List.drop a0.toNat (List.take (R.getD ((k : Int)).toNat tRg.dflt).1.toNat b)) ++ (raw b (R.getD ((k : Int)).toNat tRg.dflt).2.1 (R.getD ((k : Int)).toNat tRg.dflt).1 (inR p (R.getD ((k : Int)).toNat tRg.dflt).1 (R.getD ((k : Int)).toNat tRg.dflt).2.1)))) := (if_pos (.inr hE)).trans (if_neg hL)
                    rw [e1, e2] at hmN
                    replace hmN := Lib.hid hmN
                    clear e1 e2
                    dsimp only [mgH]
                    (repeat' (first | (with_reducible refine Step.mk True.intro ?_) | (with_reducible refine Step.mk ?_ ?_; focus (((try simp only [true_and, and_true, and_self, kmin, kmax, decide_eq_true_eq, decide_eq_false_iff_not, castD_self, castL_self, List.length_cons, List.length_nil, List.length_append, Int.natCast_add] at *) <;> omega))) | (with_reducible refine Step.mk ?_ ?_) | (with_reducible refine Way.t1 ?_) | (with_reducible refine Way.f1 ?_) | ((with_reducible refine Way.dec (fun zz => ?_) (fun zz => ?_)) <;> (try simp only [castD_self, castL_self] at zz) <;> try (exfalso; first | omega | contradiction)) | (with_reducible refine Way.nt ?_) | ((with_reducible refine Way.mk (fun _ => ?_) (fun _ => ?_)) <;> try (exfalso; rename_i hw; first | exact Bool.noConfusion ((Go.RowKit.Hid.out hcf).symm.trans hw) | exact Bool.noConfusion (hw.symm.trans (Go.RowKit.Hid.out hcf)))) | (with_reducible refine Drawn.mk (by kernel_rfl) ?_) | (refine Run.mk ?_)))
                    all_goals (
                      refine Cend.go ?_
                      (repeat' (first | (with_reducible refine Cend.go ?_) | (with_reducible refine Step.mk True.intro ?_) | (with_reducible refine Step.mk ?_ ?_; focus (((try simp only [true_and, and_true, and_self, kmin, kmax, decide_eq_true_eq, decide_eq_false_iff_not, castD_self, castL_self, List.length_cons, List.length_nil, List.length_append, Int.natCast_add] at *) <;> omega))) | (with_reducible refine Step.mk ?_ ?_) | (with_reducible refine Way.t1 ?_) | (with_reducible refine Way.f1 ?_) | ((with_reducible refine Way.dec (fun zz => ?_) (fun zz => ?_)) <;> (try simp only [castD_self, castL_self] at zz) <;> try (exfalso; first | omega | contradiction)) | (with_reducible refine Way.nt ?_) | ((with_reducible refine Way.mk (fun _ => ?_) (fun _ => ?_)) <;> try (exfalso; rename_i hw; first | exact Bool.noConfusion ((Go.RowKit.Hid.out hcf).symm.trans hw) | exact Bool.noConfusion (hw.symm.trans (Go.RowKit.Hid.out hcf)))) | (with_reducible refine Drawn.mk (by kernel_rfl) ?_) | (refine Run.mk ?_)))
                      all_goals first
                        | exact ⟨hpo.out, hpl⟩
                        | exact ⟨hqo.out, hql⟩
                        | exact ⟨hra.out, hbl, hil⟩
                        | exact ⟨hrb.out, hbl, hjl⟩
                        | exact hcl
                        | exact absurd hE (by assumption)
                        | (refine Back.by (k + 1, (R.getD ((k : Int)).toNat tRg.dflt).2.1, D, some ((List.drop a0.toNat (List.take (R.getD ((k : Int)).toNat tRg.dflt).1.toNat b)) ++ (raw b (R.getD ((k : Int)).toNat tRg.dflt).2.1 (R.getD ((k : Int)).toNat tRg.dflt).1 (inR p (R.getD ((k : Int)).toNat tRg.dflt).1 (R.getD ((k : Int)).toNat tRg.dflt).2.1)))) ?_ ?_ ?_; (focus (dsimp only [mgH]; (focus (refine Wk.ren [(91, 61034), (92, 109054)] rfl ?_ ?_ <;> repeat' (first | exact True.intro | refine And.intro rfl ?_ | refine And.intro (congrArg (fun z : Int => AV.v false [Lf.d (.int .i64) z]) (by first | omega | (simp only [Int.natCast_add, List.length_cons, List.length_append, List.length_nil]; omega))) ?_ | refine And.intro ?_ ?_))); done)); (focus (refine ⟨hlt, hrg.out, hmN.out, ?_, ?_, ?_⟩; (focus (show List.length _ ≤ 2 * (k + 1); (try simp only [List.length_append, List.length_cons, List.length_nil]); omega)); (focus (intro z; cases z)); (focus (intro L z; cases z; (try simp only [List.length_append]); omega)))); (focus (show R.length - (k + 1) < R.length - k; omega))))
                · by_cases hM : (inR p (R.getD ((k : Int)).toNat tRg.dflt).1 (R.getD ((k : Int)).toNat tRg.dflt).2.1).length = 0
                  · by_cases hL : (raw b (R.getD ((k : Int)).toNat tRg.dflt).2.1 (R.getD ((k : Int)).toNat tRg.dflt).1 (inR q (R.getD ((k : Int)).toNat tRg.dflt).1 (R.getD ((k : Int)).toNat tRg.dflt).2.1)).length = 0
                    · skip
                      have e1 : plF (D, none) (List.drop a0.toNat (List.take (R.getD ((k : Int)).toNat tRg.dflt).1.toNat b)) = (D, some (List.drop a0.toNat (List.take (R.getD ((k : Int)).toNat tRg.dflt).1.toNat b))) := if_neg hpre
                      have e2 : mgS b p q (R.getD ((k : Int)).toNat tRg.dflt).1 (R.getD ((k : Int)).toNat tRg.dflt).2.1 (D, some (List.drop a0.toNat (List.take (R.getD ((k : Int)).toNat tRg.dflt).1.toNat b))) = (D, some (List.drop a0.toNat (List.take (R.getD ((k : Int)).toNat tRg.dflt).1.toNat b))) := ((if_neg (fun z => z.elim hT hE)).trans (if_pos hM)).trans (if_pos hL)
                      rw [e1, e2] at hmN
                      replace hmN := Lib.hid hmN
                      clear e1 e2
                      dsimp only [mgH]
                      (repeat' (first | (with_reducible refine Step.mk True.intro ?_) | (with_reducible refine Step.mk ?_ ?_; focus (((try simp only [true_and, and_true, and_self, kmin, kmax, decide_eq_true_eq, decide_eq_false_iff_not, castD_self, castL_self, List.length_cons, List.length_nil, List.length_append, Int.natCast_add] at *) <;> omega))) | (with_reducible refine Step.mk ?_ ?_) | (with_reducible refine Way.t1 ?_) | (with_reducible refine Way.f1 ?_) | ((with_reducible refine Way.dec (fun zz => ?_) (fun zz => ?_)) <;> (try simp only [castD_self, castL_self] at zz) <;> try (exfalso; first | omega | contradiction)) | (with_reducible refine Way.nt ?_) | ((with_reducible refine Way.mk (fun _ => ?_) (fun _ => ?_)) <;> try (exfalso; rename_i hw; first | exact Bool.noConfusion ((Go.RowKit.Hid.out hcf).symm.trans hw) | exact Bool.noConfusion (hw.symm.trans (Go.RowKit.Hid.out hcf)))) | (with_reducible refine Drawn.mk (by kernel_rfl) ?_) | (refine Run.mk ?_)))
                      all_goals (
                        refine Cend.go ?_
                        (repeat' (first | (with_reducible refine Cend.go ?_) | (with_reducible refine Step.mk True.intro ?_) | (with_reducible refine Step.mk ?_ ?_; focus (((try simp only [true_and, and_true, and_self, kmin, kmax, decide_eq_true_eq, decide_eq_false_iff_not, castD_self, castL_self, List.length_cons, List.length_nil, List.length_append, Int.natCast_add] at *) <;> omega))) | (with_reducible refine Step.mk ?_ ?_) | (with_reducible refine Way.t1 ?_) | (with_reducible refine Way.f1 ?_) | ((with_reducible refine Way.dec (fun zz => ?_) (fun zz => ?_)) <;> (try simp only [castD_self, castL_self] at zz) <;> try (exfalso; first | omega | contradiction)) | (with_reducible refine Way.nt ?_) | ((with_reducible refine Way.mk (fun _ => ?_) (fun _ => ?_)) <;> try (exfalso; rename_i hw; first | exact Bool.noConfusion ((Go.RowKit.Hid.out hcf).symm.trans hw) | exact Bool.noConfusion (hw.symm.trans (Go.RowKit.Hid.out hcf)))) | (with_reducible refine Drawn.mk (by kernel_rfl) ?_) | (refine Run.mk ?_)))
                        all_goals first
                          | exact ⟨hpo.out, hpl⟩
                          | exact ⟨hqo.out, hql⟩
                          | exact ⟨hra.out, hbl, hil⟩
                          | exact ⟨hrb.out, hbl, hjl⟩
                          | exact hcl
                          | exact absurd (by assumption) hE
                          | (refine Back.by (k + 1, (R.getD ((k : Int)).toNat tRg.dflt).2.1, D, some (List.drop a0.toNat (List.take (R.getD ((k : Int)).toNat tRg.dflt).1.toNat b))) ?_ ?_ ?_; (focus (dsimp only [mgH]; (focus (refine Wk.ren [(91, 61034), (92, 61054)] rfl ?_ ?_ <;> repeat' (first | exact True.intro | refine And.intro rfl ?_ | refine And.intro (congrArg (fun z : Int => AV.v false [Lf.d (.int .i64) z]) (by first | omega | (simp only [Int.natCast_add, List.length_cons, List.length_append, List.length_nil]; omega))) ?_ | refine And.intro ?_ ?_))); done)); (focus (refine ⟨hlt, hrg.out, hmN.out, ?_, ?_, ?_⟩; (focus (show List.length _ ≤ 2 * (k + 1); (try simp only [List.length_append, List.length_cons, List.length_nil]); omega)); (focus (intro z; cases z)); (focus (intro L z; cases z; (try simp only [List.length_append]); omega)))); (focus (show R.length - (k + 1) < R.length - k; omega))))
                    · skip
                      have e1 : plF (D, none) (List.drop a0.toNat (List.take (R.getD ((k : Int)).toNat tRg.dflt).1.toNat b)) = (D, some (List.drop a0.toNat (List.take (R.getD ((k : Int)).toNat tRg.dflt).1.toNat b))) := if_neg hpre
                      have e2 : mgS b p q (R.getD ((k : Int)).toNat tRg.dflt).1 (R.getD ((k : Int)).toNat tRg.dflt).2.1 (D, some (List.drop a0.toNat (List.take (R.getD ((k : Int)).toNat tRg.dflt).1.toNat b))) = (D, some ((List.drop a0.toNat (List.take (R.getD ((k : Int)).toNat tRg.dflt).1.toNat b)) ++ (raw b (R.getD ((k : Int)).toNat tRg.dflt).2.1 (R.getD ((k : Int)).toNat tRg.dflt).1 (inR q (R.getD ((k : Int)).toNat tRg.dflt).1 (R.getD ((k : Int)).toNat tRg.dflt).2.1)))) := ((if_neg (fun z => z.elim hT hE)).trans (if_pos hM)).trans (if_neg hL)
                      rw [e1, e2] at hmN
                      replace hmN := Lib.hid hmN
                      clear e1 e2
                      dsimp only [mgH]
                      (repeat' (first | (with_reducible refine Step.mk True.intro ?_) | (with_reducible refine Step.mk ?_ ?_; focus (((try simp only [true_and, and_true, and_self, kmin, kmax, decide_eq_true_eq, decide_eq_false_iff_not, castD_self, castL_self, List.length_cons, List.length_nil, List.length_append, Int.natCast_add] at *) <;> omega))) | (with_reducible refine Step.mk ?_ ?_) | (with_reducible refine Way.t1 ?_) | (with_reducible refine Way.f1 ?_) | ((with_reducible refine Way.dec (fun zz => ?_) (fun zz => ?_)) <;> (try simp only [castD_self, castL_self] at zz) <;> try (exfalso; first | omega | contradiction)) | (with_reducible refine Way.nt ?_) | ((with_reducible refine Way.mk (fun _ => ?_) (fun _ => ?_)) <;> try (exfalso; rename_i hw; first | exact Bool.noConfusion ((Go.RowKit.Hid.out hcf).symm.trans hw) | exact Bool.noConfusion (hw.symm.trans (Go.RowKit.Hid.out hcf)))) | (with_reducible refine Drawn.mk (by kernel_rfl) ?_) | (refine Run.mk ?_)))
                      all_goals (
                        refine Cend.go ?_
                        (repeat' (first | (with_reducible refine Cend.go ?_) | (with_reducible refine Step.mk True.intro ?_) | (with_reducible refine Step.mk ?_ ?_; focus (((try simp only [true_and, and_true, and_self, kmin, kmax, decide_eq_true_eq, decide_eq_false_iff_not, castD_self, castL_self, List.length_cons, List.length_nil, List.length_append, Int.natCast_add] at *) <;> omega))) | (with_reducible refine Step.mk ?_ ?_) | (with_reducible refine Way.t1 ?_) | (with_reducible refine Way.f1 ?_) | ((with_reducible refine Way.dec (fun zz => ?_) (fun zz => ?_)) <;> (try simp only [castD_self, castL_self] at zz) <;> try (exfalso; first | omega | contradiction)) | (with_reducible refine Way.nt ?_) | ((with_reducible refine Way.mk (fun _ => ?_) (fun _ => ?_)) <;> try (exfalso; rename_i hw; first | exact Bool.noConfusion ((Go.RowKit.Hid.out hcf).symm.trans hw) | exact Bool.noConfusion (hw.symm.trans (Go.RowKit.Hid.out hcf)))) | (with_reducible refine Drawn.mk (by kernel_rfl) ?_) | (refine Run.mk ?_)))
                        all_goals first
                          | exact ⟨hpo.out, hpl⟩
                          | exact ⟨hqo.out, hql⟩
                          | exact ⟨hra.out, hbl, hil⟩
                          | exact ⟨hrb.out, hbl, hjl⟩
                          | exact hcl
                          | exact absurd (by assumption) hE
                          | (refine Back.by (k + 1, (R.getD ((k : Int)).toNat tRg.dflt).2.1, D, some ((List.drop a0.toNat (List.take (R.getD ((k : Int)).toNat tRg.dflt).1.toNat b)) ++ (raw b (R.getD ((k : Int)).toNat tRg.dflt).2.1 (R.getD ((k : Int)).toNat tRg.dflt).1 (inR q (R.getD ((k : Int)).toNat tRg.dflt).1 (R.getD ((k : Int)).toNat tRg.dflt).2.1)))) ?_ ?_ ?_; (focus (dsimp only [mgH]; (focus (refine Wk.ren [(91, 61034), (92, 115054)] rfl ?_ ?_ <;> repeat' (first | exact True.intro | refine And.intro rfl ?_ | refine And.intro (congrArg (fun z : Int => AV.v false [Lf.d (.int .i64) z]) (by first | omega | (simp only [Int.natCast_add, List.length_cons, List.length_append, List.length_nil]; omega))) ?_ | refine And.intro ?_ ?_))); done)); (focus (refine ⟨hlt, hrg.out, hmN.out, ?_, ?_, ?_⟩; (focus (show List.length _ ≤ 2 * (k + 1); (try simp only [List.length_append, List.length_cons, List.length_nil]); omega)); (focus (intro z; cases z)); (focus (intro L z; cases z; (try simp only [List.length_append]); omega)))); (focus (show R.length - (k + 1) < R.length - k; omega))))
                  · skip
                    have e1 : plF (D, none) (List.drop a0.toNat (List.take (R.getD ((k : Int)).toNat tRg.dflt).1.toNat b)) = (D, some (List.drop a0.toNat (List.take (R.getD ((k : Int)).toNat tRg.dflt).1.toNat b))) := if_neg hpre
                    have e2 : mgS b p q (R.getD ((k : Int)).toNat tRg.dflt).1 (R.getD ((k : Int)).toNat tRg.dflt).2.1 (D, some (List.drop a0.toNat (List.take (R.getD ((k : Int)).toNat tRg.dflt).1.toNat b))) = (((D ++ [plCh (List.drop a0.toNat (List.take (R.getD ((k : Int)).toNat tRg.dflt).1.toNat b))]) ++ [(true, [], (List.drop (R.getD ((k : Int)).toNat tRg.dflt).1.toNat (List.take (R.getD ((k : Int)).toNat tRg.dflt).2.1.toNat b)), (raw b (R.getD ((k : Int)).toNat tRg.dflt).2.1 (R.getD ((k : Int)).toNat tRg.dflt).1 (inR p (R.getD ((k : Int)).toNat tRg.dflt).1 (R.getD ((k : Int)).toNat tRg.dflt).2.1)), (raw b (R.getD ((k : Int)).toNat tRg.dflt).2.1 (R.getD ((k : Int)).toNat tRg.dflt).1 (inR q (R.getD ((k : Int)).toNat tRg.dflt).1 (R.getD ((k : Int)).toNat tRg.dflt).2.1)))]), none) := (if_neg (fun z => z.elim hT hE)).trans (if_neg hM)
                    rw [e1, e2] at hmN
                    replace hmN := Lib.hid hmN
                    clear e1 e2
                    dsimp only [mgH]
                    (repeat' (first | (with_reducible refine Step.mk True.intro ?_) | (with_reducible refine Step.mk ?_ ?_; focus (((try simp only [true_and, and_true, and_self, kmin, kmax, decide_eq_true_eq, decide_eq_false_iff_not, castD_self, castL_self, List.length_cons, List.length_nil, List.length_append, Int.natCast_add] at *) <;> omega))) | (with_reducible refine Step.mk ?_ ?_) | (with_reducible refine Way.t1 ?_) | (with_reducible refine Way.f1 ?_) | ((with_reducible refine Way.dec (fun zz => ?_) (fun zz => ?_)) <;> (try simp only [castD_self, castL_self] at zz) <;> try (exfalso; first | omega | contradiction)) | (with_reducible refine Way.nt ?_) | ((with_reducible refine Way.mk (fun _ => ?_) (fun _ => ?_)) <;> try (exfalso; rename_i hw; first | exact Bool.noConfusion ((Go.RowKit.Hid.out hcf).symm.trans hw) | exact Bool.noConfusion (hw.symm.trans (Go.RowKit.Hid.out hcf)))) | (with_reducible refine Drawn.mk (by kernel_rfl) ?_) | (refine Run.mk ?_)))
                    all_goals (
                      refine Cend.wk (fun n => Wk.pack 61034 (E := 40) (t := tCh) (l1 := D) (l2 := []) (x := plCh (List.drop a0.toNat (List.take (R.getD ((k : Int)).toNat tRg.dflt).1.toNat b))) (hl' := [.put 14 (.box 53 [.o 61034]), .put 7 (.box 25 [.d (.int .i64) 0, .d (.int .i64) 0]), .put 10 (.box 44 [.d (.slice tHk) p]), .put 12 (.box 44 [.d (.slice tHk) q]), .put 17 (.box 57 [.d (.int .i64) (R.getD ((k : Int)).toNat tRg.dflt).1, .d (.int .i64) (R.getD ((k : Int)).toNat tRg.dflt).2.1, .d (.int .i64) (R.getD ((k : Int)).toNat tRg.dflt).2.2])]) rfl rfl (by repeat' (first | exact True.intro | refine And.intro rfl ?_)) rfl rfl) ?_
                      (repeat' (first | (with_reducible refine Cend.go ?_) | (with_reducible refine Step.mk True.intro ?_) | (with_reducible refine Step.mk ?_ ?_; focus (((try simp only [true_and, and_true, and_self, kmin, kmax, decide_eq_true_eq, decide_eq_false_iff_not, castD_self, castL_self, List.length_cons, List.length_nil, List.length_append, Int.natCast_add] at *) <;> omega))) | (with_reducible refine Step.mk ?_ ?_) | (with_reducible refine Way.t1 ?_) | (with_reducible refine Way.f1 ?_) | ((with_reducible refine Way.dec (fun zz => ?_) (fun zz => ?_)) <;> (try simp only [castD_self, castL_self] at zz) <;> try (exfalso; first | omega | contradiction)) | (with_reducible refine Way.nt ?_) | ((with_reducible refine Way.mk (fun _ => ?_) (fun _ => ?_)) <;> try (exfalso; rename_i hw; first | exact Bool.noConfusion ((Go.RowKit.Hid.out hcf).symm.trans hw) | exact Bool.noConfusion (hw.symm.trans (Go.RowKit.Hid.out hcf)))) | (with_reducible refine Drawn.mk (by kernel_rfl) ?_) | (refine Run.mk ?_)))
                      all_goals first
                        | exact ⟨hpo.out, hpl⟩
                        | exact ⟨hqo.out, hql⟩
                        | exact ⟨hra.out, hbl, hil⟩
                        | exact ⟨hrb.out, hbl, hjl⟩
                        | exact hcl
                        | exact absurd (by assumption) hE
                        | (refine Back.by (k + 1, (R.getD ((k : Int)).toNat tRg.dflt).2.1, ((D ++ [plCh (List.drop a0.toNat (List.take (R.getD ((k : Int)).toNat tRg.dflt).1.toNat b))]) ++ [(true, [], (List.drop (R.getD ((k : Int)).toNat tRg.dflt).1.toNat (List.take (R.getD ((k : Int)).toNat tRg.dflt).2.1.toNat b)), (raw b (R.getD ((k : Int)).toNat tRg.dflt).2.1 (R.getD ((k : Int)).toNat tRg.dflt).1 (inR p (R.getD ((k : Int)).toNat tRg.dflt).1 (R.getD ((k : Int)).toNat tRg.dflt).2.1)), (raw b (R.getD ((k : Int)).toNat tRg.dflt).2.1 (R.getD ((k : Int)).toNat tRg.dflt).1 (inR q (R.getD ((k : Int)).toNat tRg.dflt).1 (R.getD ((k : Int)).toNat tRg.dflt).2.1)))]), none) ?_ ?_ ?_; (focus (dsimp only [mgH]; refine Wk.trans (Wk.pack 96 (E := 40) (t := tCh) (l1 := (D ++ [plCh (List.drop a0.toNat (List.take (R.getD ((k : Int)).toNat tRg.dflt).1.toNat b))])) (l2 := []) (x := (true, [], (List.drop (R.getD ((k : Int)).toNat tRg.dflt).1.toNat (List.take (R.getD ((k : Int)).toNat tRg.dflt).2.1.toNat b)), (raw b (R.getD ((k : Int)).toNat tRg.dflt).2.1 (R.getD ((k : Int)).toNat tRg.dflt).1 (inR p (R.getD ((k : Int)).toNat tRg.dflt).1 (R.getD ((k : Int)).toNat tRg.dflt).2.1)), (raw b (R.getD ((k : Int)).toNat tRg.dflt).2.1 (R.getD ((k : Int)).toNat tRg.dflt).1 (inR q (R.getD ((k : Int)).toNat tRg.dflt).1 (R.getD ((k : Int)).toNat tRg.dflt).2.1)))) (hl' := [.put 14 (.box 53 [.o 96]), .put 7 (.box 25 [.d (.int .i64) 0, .d (.int .i64) 0]), .put 10 (.box 44 [.d (.slice tHk) p]), .put 12 (.box 44 [.d (.slice tHk) q])]) rfl rfl (by repeat' (first | exact True.intro | refine And.intro rfl ?_)) rfl rfl) ?_; (focus (refine Wk.ren [(91, 96)] rfl ?_ ?_ <;> repeat' (first | exact True.intro | refine And.intro rfl ?_ | refine And.intro (congrArg (fun z : Int => AV.v false [Lf.d (.int .i64) z]) (by first | omega | (simp only [Int.natCast_add, List.length_cons, List.length_append, List.length_nil]; omega))) ?_ | refine And.intro ?_ ?_))); done)); (focus (refine ⟨hlt, hrg.out, hmN.out, ?_, ?_, ?_⟩; (focus (show List.length _ ≤ 2 * (k + 1); (try simp only [List.length_append, List.length_cons, List.length_nil]); omega)); (focus (intro _ _; exact congrArg Prod.fst (getD_last _ _ _))); (focus (intro L z; cases z)))); (focus (show R.length - (k + 1) < R.length - k; omega))))
          · have hcf : (D.getD ((((D.length : Nat) : Int)) - 1).toNat tCh.dflt).1 = true := by rw [show ((((D.length : Nat) : Int)) - 1).toNat = D.length - 1 by omega]; exact hcf0.out rfl (by omega)
            replace hcf := Lib.hid hcf
            by_cases hpre : (List.drop a0.toNat (List.take (R.getD ((k : Int)).toNat tRg.dflt).1.toNat b)).length = 0
            · skip
              by_cases hT : (inR q (R.getD ((k : Int)).toNat tRg.dflt).1 (R.getD ((k : Int)).toNat tRg.dflt).2.1).length = 0
              · by_cases hL : (raw b (R.getD ((k : Int)).toNat tRg.dflt).2.1 (R.getD ((k : Int)).toNat tRg.dflt).1 (inR p (R.getD ((k : Int)).toNat tRg.dflt).1 (R.getD ((k : Int)).toNat tRg.dflt).2.1)).length = 0
                · skip
                  have e1 : plF (D, none) (List.drop a0.toNat (List.take (R.getD ((k : Int)).toNat tRg.dflt).1.toNat b)) = (D, none) := if_pos hpre
                  have e2 : mgS b p q (R.getD ((k : Int)).toNat tRg.dflt).1 (R.getD ((k : Int)).toNat tRg.dflt).2.1 (D, none) = (D, none) := (if_pos (.inl hT)).trans (if_pos hL)
                  rw [e1, e2] at hmN
                  replace hmN := Lib.hid hmN
                  clear e1 e2
                  dsimp only [mgH]
                  (repeat' (first | (with_reducible refine Step.mk True.intro ?_) | (with_reducible refine Step.mk ?_ ?_; focus (((try simp only [true_and, and_true, and_self, kmin, kmax, decide_eq_true_eq, decide_eq_false_iff_not, castD_self, castL_self, List.length_cons, List.length_nil, List.length_append, Int.natCast_add] at *) <;> omega))) | (with_reducible refine Step.mk ?_ ?_) | (with_reducible refine Way.t1 ?_) | (with_reducible refine Way.f1 ?_) | ((with_reducible refine Way.dec (fun zz => ?_) (fun zz => ?_)) <;> (try simp only [castD_self, castL_self] at zz) <;> try (exfalso; first | omega | contradiction)) | (with_reducible refine Way.nt ?_) | ((with_reducible refine Way.mk (fun _ => ?_) (fun _ => ?_)) <;> try (exfalso; rename_i hw; first | exact Bool.noConfusion ((Go.RowKit.Hid.out hcf).symm.trans hw) | exact Bool.noConfusion (hw.symm.trans (Go.RowKit.Hid.out hcf)))) | (with_reducible refine Drawn.mk (by kernel_rfl) ?_) | (refine Run.mk ?_)))
                  all_goals (
                    refine Cend.go ?_
                    (repeat' (first | (with_reducible refine Cend.go ?_) | (with_reducible refine Step.mk True.intro ?_) | (with_reducible refine Step.mk ?_ ?_; focus (((try simp only [true_and, and_true, and_self, kmin, kmax, decide_eq_true_eq, decide_eq_false_iff_not, castD_self, castL_self, List.length_cons, List.length_nil, List.length_append, Int.natCast_add] at *) <;> omega))) | (with_reducible refine Step.mk ?_ ?_) | (with_reducible refine Way.t1 ?_) | (with_reducible refine Way.f1 ?_) | ((with_reducible refine Way.dec (fun zz => ?_) (fun zz => ?_)) <;> (try simp only [castD_self, castL_self] at zz) <;> try (exfalso; first | omega | contradiction)) | (with_reducible refine Way.nt ?_) | ((with_reducible refine Way.mk (fun _ => ?_) (fun _ => ?_)) <;> try (exfalso; rename_i hw; first | exact Bool.noConfusion ((Go.RowKit.Hid.out hcf).symm.trans hw) | exact Bool.noConfusion (hw.symm.trans (Go.RowKit.Hid.out hcf)))) | (with_reducible refine Drawn.mk (by kernel_rfl) ?_) | (refine Run.mk ?_)))
                    all_goals first
                      | exact ⟨hpo.out, hpl⟩
                      | exact ⟨hqo.out, hql⟩
                      | exact ⟨hra.out, hbl, hil⟩
                      | exact ⟨hrb.out, hbl, hjl⟩
                      | exact hcl
                      | (refine Back.by (k + 1, (R.getD ((k : Int)).toNat tRg.dflt).2.1, D, none) ?_ ?_ ?_; (focus (dsimp only [mgH]; (focus (refine Wk.keep ?_ ?_ <;> repeat' (first | exact True.intro | refine And.intro rfl ?_ | refine And.intro (congrArg (fun z : Int => AV.v false [Lf.d (.int .i64) z]) (by first | omega | (simp only [Int.natCast_add, List.length_cons, List.length_append, List.length_nil]; omega))) ?_ | refine And.intro ?_ ?_))); done)); (focus (refine ⟨hlt, hrg.out, hmN.out, ?_, ?_, ?_⟩; (focus (show List.length _ ≤ 2 * (k + 1); (try simp only [List.length_append, List.length_cons, List.length_nil]); omega)); (focus (intro z; exact hcf0.out rfl)); (focus (intro L z; cases z)))); (focus (show R.length - (k + 1) < R.length - k; omega))))
                · skip
                  have e1 : plF (D, none) (List.drop a0.toNat (List.take (R.getD ((k : Int)).toNat tRg.dflt).1.toNat b)) = (D, none) := if_pos hpre
                  have e2 : mgS b p q (R.getD ((k : Int)).toNat tRg.dflt).1 (R.getD ((k : Int)).toNat tRg.dflt).2.1 (D, none) = (D, some (raw b (R.getD ((k : Int)).toNat tRg.dflt).2.1 (R.getD ((k : Int)).toNat tRg.dflt).1 (inR p (R.getD ((k : Int)).toNat tRg.dflt).1 (R.getD ((k : Int)).toNat tRg.dflt).2.1))) := (if_pos (.inl hT)).trans (if_neg hL)
                  rw [e1, e2] at hmN
                  replace hmN := Lib.hid hmN
                  clear e1 e2
                  dsimp only [mgH]
                  (repeat' (first | (with_reducible refine Step.mk True.intro ?_) | (with_reducible refine Step.mk ?_ ?_; focus (((try simp only [true_and, and_true, and_self, kmin, kmax, decide_eq_true_eq, decide_eq_false_iff_not, castD_self, castL_self, List.length_cons, List.length_nil, List.length_append, Int.natCast_add] at *) <;> omega))) | (with_reducible refine Step.mk ?_ ?_) | (with_reducible refine Way.t1 ?_) | (with_reducible refine Way.f1 ?_) | ((with_reducible refine Way.dec (fun zz => ?_) (fun zz => ?_)) <;> (try simp only [castD_self, castL_self] at zz) <;> try (exfalso; first | omega | contradiction)) | (with_reducible refine Way.nt ?_) | ((with_reducible refine Way.mk (fun _ => ?_) (fun _ => ?_)) <;> try (exfalso; rename_i hw; first | exact Bool.noConfusion ((Go.RowKit.Hid.out hcf).symm.trans hw) | exact Bool.noConfusion (hw.symm.trans (Go.RowKit.Hid.out hcf)))) | (with_reducible refine Drawn.mk (by kernel_rfl) ?_) | (refine Run.mk ?_)))
                  all_goals (
                    refine Cend.go ?_
                    (repeat' (first | (with_reducible refine Cend.go ?_) | (with_reducible refine Step.mk True.intro ?_) | (with_reducible refine Step.mk ?_ ?_; focus (((try simp only [true_and, and_true, and_self, kmin, kmax, decide_eq_true_eq, decide_eq_false_iff_not, castD_self, castL_self, List.length_cons, List.length_nil, List.length_append, Int.natCast_add] at *) <;> omega))) | (with_reducible refine Step.mk ?_ ?_) | (with_reducible refine Way.t1 ?_) | (with_reducible refine Way.f1 ?_) | ((with_reducible refine Way.dec (fun zz => ?_) (fun zz => ?_)) <;> (try simp only [castD_self, castL_self] at zz) <;> try (exfalso; first | omega | contradiction)) | (with_reducible refine Way.nt ?_) | ((with_reducible refine Way.mk (fun _ => ?_) (fun _ => ?_)) <;> try (exfalso; rename_i hw; first | exact Bool.noConfusion ((Go.RowKit.Hid.out hcf).symm.trans hw) | exact Bool.noConfusion (hw.symm.trans (Go.RowKit.Hid.out hcf)))) | (with_reducible refine Drawn.mk (by kernel_rfl) ?_) | (refine Run.mk ?_)))
                    all_goals first
                      | exact ⟨hpo.out, hpl⟩
                      | exact ⟨hqo.out, hql⟩
                      | exact ⟨hra.out, hbl, hil⟩
                      | exact ⟨hrb.out, hbl, hjl⟩
                      | exact hcl
                      | (refine Back.by (k + 1, (R.getD ((k : Int)).toNat tRg.dflt).2.1, D, some (raw b (R.getD ((k : Int)).toNat tRg.dflt).2.1 (R.getD ((k : Int)).toNat tRg.dflt).1 (inR p (R.getD ((k : Int)).toNat tRg.dflt).1 (R.getD ((k : Int)).toNat tRg.dflt).2.1))) ?_ ?_ ?_; (focus (dsimp only [mgH]; (focus (refine Wk.ren [(91, 109034), (92, 109054)] rfl ?_ ?_ <;> repeat' (first | exact True.intro | refine And.intro rfl ?_ | refine And.intro (congrArg (fun z : Int => AV.v false [Lf.d (.int .i64) z]) (by first | omega | (simp only [Int.natCast_add, List.length_cons, List.length_append, List.length_nil]; omega))) ?_ | refine And.intro ?_ ?_))); done)); (focus (refine ⟨hlt, hrg.out, hmN.out, ?_, ?_, ?_⟩; (focus (show List.length _ ≤ 2 * (k + 1); (try simp only [List.length_append, List.length_cons, List.length_nil]); omega)); (focus (intro z; cases z)); (focus (intro L z; cases z; (try simp only [List.length_append]); omega)))); (focus (show R.length - (k + 1) < R.length - k; omega))))
              · by_cases hE : (raw b (R.getD ((k : Int)).toNat tRg.dflt).2.1 (R.getD ((k : Int)).toNat tRg.dflt).1 (inR p (R.getD ((k : Int)).toNat tRg.dflt).1 (R.getD ((k : Int)).toNat tRg.dflt).2.1)) = (raw b (R.getD ((k : Int)).toNat tRg.dflt).2.1 (R.getD ((k : Int)).toNat tRg.dflt).1 (inR q (R.getD ((k : Int)).toNat tRg.dflt).1 (R.getD ((k : Int)).toNat tRg.dflt).2.1))
                · by_cases hL : (raw b (R.getD ((k : Int)).toNat tRg.dflt).2.1 (R.getD ((k : Int)).toNat tRg.dflt).1 (inR p (R.getD ((k : Int)).toNat tRg.dflt).1 (R.getD ((k : Int)).toNat tRg.dflt).2.1)).length = 0
                  · skip
                    have e1 : plF (D, none) (List.drop a0.toNat (List.take (R.getD ((k : Int)).toNat tRg.dflt).1.toNat b)) = (D, none) := if_pos hpre
                    have e2 : mgS b p q (R.getD ((k : Int)).toNat tRg.dflt).1 (R.getD ((k : Int)).toNat tRg.dflt).2.1 (D, none) = (D, none) := (if_pos (.inr hE)).trans (if_pos hL)
                    rw [e1, e2] at hmN
                    replace hmN := Lib.hid hmN
                    clear e1 e2
                    dsimp only [mgH]
                    (repeat' (first | (with_reducible refine Step.mk True.intro ?_) | (with_reducible refine Step.mk ?_ ?_; focus (((try simp only [true_and, and_true, and_self, kmin, kmax, decide_eq_true_eq, decide_eq_false_iff_not, castD_self, castL_self, List.length_cons, List.length_nil, List.length_append, Int.natCast_add] at *) <;> omega))) | (with_reducible refine Step.mk ?_ ?_) | (with_reducible refine Way.t1 ?_) | (with_reducible refine Way.f1 ?_) | ((with_reducible refine Way.dec (fun zz => ?_) (fun zz => ?_)) <;> (try simp only [castD_self, castL_self] at zz) <;> try (exfalso; first | omega | contradiction)) | (with_reducible refine Way.nt ?_) | ((with_reducible refine Way.mk (fun _ => ?_) (fun _ => ?_)) <;> try (exfalso; rename_i hw; first | exact Bool.noConfusion ((Go.RowKit.Hid.out hcf).symm.trans hw) | exact Bool.noConfusion (hw.symm.trans (Go.RowKit.Hid.out hcf)))) | (with_reducible refine Drawn.mk (by kernel_rfl) ?_) | (refine Run.mk ?_)))
                    all_goals (
                      refine Cend.go ?_
                      (repeat' (first | (with_reducible refine Cend.go ?_) | (with_reducible refine Step.mk True.intro ?_) | (with_reducible refine Step.mk ?_ ?_; focus (((try simp only [true_and, and_true, and_self, kmin, kmax, decide_eq_true_eq, decide_eq_false_iff_not, castD_self, castL_self, List.length_cons, List.length_nil, List.length_append, Int.natCast_add] at *) <;> omega))) | (with_reducible refine Step.mk ?_ ?_) | (with_reducible refine Way.t1 ?_) | (with_reducible refine Way.f1 ?_) | ((with_reducible refine Way.dec (fun zz => ?_) (fun zz => ?_)) <;> (try simp only [castD_self, castL_self] at zz) <;> try (exfalso; first | omega | contradiction)) | (with_reducible refine Way.nt ?_) | ((with_reducible refine Way.mk (fun _ => ?_) (fun _ => ?_)) <;> try (exfalso; rename_i hw; first | exact Bool.noConfusion ((Go.RowKit.Hid.out hcf).symm.trans hw) | exact Bool.noConfusion (hw.symm.trans (Go.RowKit.Hid.out hcf)))) | (with_reducible refine Drawn.mk (by kernel_rfl) ?_) | (refine Run.mk ?_)))
                      all_goals first
                        | exact ⟨hpo.out, hpl⟩
                        | exact ⟨hqo.out, hql⟩
                        | exact ⟨hra.out, hbl, hil⟩
                        | exact ⟨hrb.out, hbl, hjl⟩
                        | exact hcl
                        | exact absurd hE (by assumption)
                        | (refine Back.by (k + 1, (R.getD ((k : Int)).toNat tRg.dflt).2.1, D, none) ?_ ?_ ?_; (focus (dsimp only [mgH]; (focus (refine Wk.keep ?_ ?_ <;> repeat' (first | exact True.intro | refine And.intro rfl ?_ | refine And.intro (congrArg (fun z : Int => AV.v false [Lf.d (.int .i64) z]) (by first | omega | (simp only [Int.natCast_add, List.length_cons, List.length_append, List.length_nil]; omega))) ?_ | refine And.intro ?_ ?_))); done)); (focus (refine ⟨hlt, hrg.out, hmN.out, ?_, ?_, ?_⟩; (focus (show List.length _ ≤ 2 * (k + 1); (try simp only [List.length_append, List.length_cons, List.length_nil]); omega)); (focus (intro z; exact hcf0.out rfl)); (focus (intro L z; cases z)))); (focus (show R.length - (k + 1) < R.length - k; omega))))
                  · skip
                    have e1 : plF (D, none) (List.drop a0.toNat (List.take (R.getD ((k : Int)).toNat tRg.dflt).1.toNat b)) = (D, none) := if_pos hpre
                    have e2 : mgS b p q (R.getD ((k : Int)).toNat tRg.dflt).1 (R.getD ((k : Int)).toNat tRg.dflt).2.1 (D, none) = (D, some (raw b (R.getD ((k : Int)).toNat tRg.dflt).2.1 (R.getD ((k : Int)).toNat tRg.dflt).1 (inR p (R.getD ((k : Int)).toNat tRg.dflt).1 (R.getD ((k : Int)).toNat tRg.dflt).2.1))) := (if_pos (.inr hE)).trans (if_neg hL)
                    rw [e1, e2] at hmN
                    replace hmN := Lib.hid hmN
                    clear e1 e2
                    dsimp only [mgH]
                    (repeat' (first | (with_reducible refine Step.mk True.intro ?_) | (with_reducible refine Step.mk ?_ ?_; focus (((try simp only [true_and, and_true, and_self, kmin, kmax, decide_eq_true_eq, decide_eq_false_iff_not, castD_self, castL_self, List.length_cons, List.length_nil, List.length_append, Int.natCast_add] at *) <;> omega))) | (with_reducible refine Step.mk ?_ ?_) | (with_reducible refine Way.t1 ?_) | (with_reducible refine Way.f1 ?_) | ((with_reducible refine Way.dec (fun zz => ?_) (fun zz => ?_)) <;> (try simp only [castD_self, castL_self] at zz) <;> try (exfalso; first | omega | contradiction)) | (with_reducible refine Way.nt ?_) | ((with_reducible refine Way.mk (fun _ => ?_) (fun _ => ?_)) <;> try (exfalso; rename_i hw; first | exact Bool.noConfusion ((Go.RowKit.Hid.out hcf).symm.trans hw) | exact Bool.noConfusion (hw.symm.trans (Go.RowKit.Hid.out hcf)))) | (with_reducible refine Drawn.mk (by kernel_rfl) ?_) | (refine Run.mk ?_)))
                    all_goals (
                      refine Cend.go ?_
                      (repeat' (first | (with_reducible refine Cend.go ?_) | (with_reducible refine Step.mk True.intro ?_) | (with_reducible refine Step.mk ?_ ?_; focus (((try simp only [true_and, and_true, and_self, kmin, kmax, decide_eq_true_eq, decide_eq_false_iff_not, castD_self, castL_self, List.length_cons, List.length_nil, List.length_append, Int.natCast_add] at *) <;> omega))) | (with_reducible refine Step.mk ?_ ?_) | (with_reducible refine Way.t1 ?_) | (with_reducible refine Way.f1 ?_) | ((with_reducible refine Way.dec (fun zz => ?_) (fun zz => ?_)) <;> (try simp only [castD_self, castL_self] at zz) <;> try (exfalso; first | omega | contradiction)) | (with_reducible refine Way.nt ?_) | ((with_reducible refine Way.mk (fun _ => ?_) (fun _ => ?_)) <;> try (exfalso; rename_i hw; first | exact Bool.noConfusion ((Go.RowKit.Hid.out hcf).symm.trans hw) | exact Bool.noConfusion (hw.symm.trans (Go.RowKit.Hid.out hcf)))) | (with_reducible refine Drawn.mk (by kernel_rfl) ?_) | (refine Run.mk ?_)))
                      all_goals first
                        | exact ⟨hpo.out, hpl⟩
                        | exact ⟨hqo.out, hql⟩
                        | exact ⟨hra.out, hbl, hil⟩
                        | exact ⟨hrb.out, hbl, hjl⟩
                        | exact hcl
                        | exact absurd hE (by assumption)
                        | (refine Back.by (k + 1, (R.getD ((k : Int)).toNat tRg.dflt).2.1, D, some (raw b (R.getD ((k : Int)).toNat tRg.dflt).2.1 (R.getD ((k : Int)).toNat tRg.dflt).1 (inR p (R.getD ((k : Int)).toNat tRg.dflt).1 (R.getD ((k : Int)).toNat tRg.dflt).2.1))) ?_ ?_ ?_; (focus (dsimp only [mgH]; (focus (refine Wk.ren [(91, 109034), (92, 109054)] rfl ?_ ?_ <;> repeat' (first | exact True.intro | refine And.intro rfl ?_ | refine And.intro (congrArg (fun z : Int => AV.v false [Lf.d (.int .i64) z]) (by first | omega | (simp only [Int.natCast_add, List.length_cons, List.length_append, List.length_nil]; omega))) ?_ | refine And.intro ?_ ?_))); done)); (focus (refine ⟨hlt, hrg.out, hmN.out, ?_, ?_, ?_⟩; (focus (show List.length _ ≤ 2 * (k + 1); (try simp only [List.length_append, List.length_cons, List.length_nil]); omega)); (focus (intro z; cases z)); (focus (intro L z; cases z; (try simp only [List.length_append]); omega)))); (focus (show R.length - (k + 1) < R.length - k; omega))))
                · by_cases hM : (inR p (R.getD ((k : Int)).toNat tRg.dflt).1 (R.getD ((k : Int)).toNat tRg.dflt).2.1).length = 0
                  · by_cases hL : (raw b (R.getD ((k : Int)).toNat tRg.dflt).2.1 (R.getD ((k : Int)).toNat tRg.dflt).1 (inR q (R.getD ((k : Int)).toNat tRg.dflt).1 (R.getD ((k : Int)).toNat tRg.dflt).2.1)).length = 0
                    · skip
                      have e1 : plF (D, none) (List.drop a0.toNat (List.take (R.getD ((k : Int)).toNat tRg.dflt).1.toNat b)) = (D, none) := if_pos hpre
                      have e2 : mgS b p q (R.getD ((k : Int)).toNat tRg.dflt).1 (R.getD ((k : Int)).toNat tRg.dflt).2.1 (D, none) = (D, none) := ((if_neg (fun z => z.elim hT hE)).trans (if_pos hM)).trans (if_pos hL)
                      rw [e1, e2] at hmN
                      replace hmN := Lib.hid hmN
                      clear e1 e2
                      dsimp only [mgH]
                      (repeat' (first | (with_reducible refine Step.mk True.intro ?_) | (with_reducible refine Step.mk ?_ ?_; focus (((try simp only [true_and, and_true, and_self, kmin, kmax, decide_eq_true_eq, decide_eq_false_iff_not, castD_self, castL_self, List.length_cons, List.length_nil, List.length_append, Int.natCast_add] at *) <;> omega))) | (with_reducible refine Step.mk ?_ ?_) | (with_reducible refine Way.t1 ?_) | (with_reducible refine Way.f1 ?_) | ((with_reducible refine Way.dec (fun zz => ?_) (fun zz => ?_)) <;> (try simp only [castD_self, castL_self] at zz) <;> try (exfalso; first | omega | contradiction)) | (with_reducible refine Way.nt ?_) | ((with_reducible refine Way.mk (fun _ => ?_) (fun _ => ?_)) <;> try (exfalso; rename_i hw; first | exact Bool.noConfusion ((Go.RowKit.Hid.out hcf).symm.trans hw) | exact Bool.noConfusion (hw.symm.trans (Go.RowKit.Hid.out hcf)))) | (with_reducible refine Drawn.mk (by kernel_rfl) ?_) | (refine Run.mk ?_)))
                      all_goals (
                        refine Cend.go ?_
                        (repeat' (first | (with_reducible refine Cend.go ?_) | (with_reducible refine Step.mk True.intro ?_) | (with_reducible refine Step.mk ?_ ?_; focus (((try simp only [true_and, and_true, and_self, kmin, kmax, decide_eq_true_eq, decide_eq_false_iff_not, castD_self, castL_self, List.length_cons, List.length_nil, List.length_append, Int.natCast_add] at *) <;> omega))) | (with_reducible refine Step.mk ?_ ?_) | (with_reducible refine Way.t1 ?_) | (with_reducible refine Way.f1 ?_) | ((with_reducible refine Way.dec (fun zz => ?_) (fun zz => ?_)) <;> (try simp only [castD_self, castL_self] at zz) <;> try (exfalso; first | omega | contradiction)) | (with_reducible refine Way.nt ?_) | ((with_reducible refine Way.mk (fun _ => ?_) (fun _ => ?_)) <;> try (exfalso; rename_i hw; first | exact Bool.noConfusion ((Go.RowKit.Hid.out hcf).symm.trans hw) | exact Bool.noConfusion (hw.symm.trans (Go.RowKit.Hid.out hcf)))) | (with_reducible refine Drawn.mk (by kernel_rfl) ?_) | (refine Run.mk ?_)))
                        all_goals first
                          | exact ⟨hpo.out, hpl⟩
                          | exact ⟨hqo.out, hql⟩
                          | exact ⟨hra.out, hbl, hil⟩
                          | exact ⟨hrb.out, hbl, hjl⟩
                          | exact hcl
                          | exact absurd (by assumption) hE
                          | (refine Back.by (k + 1, (R.getD ((k : Int)).toNat tRg.dflt).2.1, D, none) ?_ ?_ ?_; (focus (dsimp only [mgH]; (focus (refine Wk.keep ?_ ?_ <;> repeat' (first | exact True.intro | refine And.intro rfl ?_ | refine And.intro (congrArg (fun z : Int => AV.v false [Lf.d (.int .i64) z]) (by first | omega | (simp only [Int.natCast_add, List.length_cons, List.length_append, List.length_nil]; omega))) ?_ | refine And.intro ?_ ?_))); done)); (focus (refine ⟨hlt, hrg.out, hmN.out, ?_, ?_, ?_⟩; (focus (show List.length _ ≤ 2 * (k + 1); (try simp only [List.length_append, List.length_cons, List.length_nil]); omega)); (focus (intro z; exact hcf0.out rfl)); (focus (intro L z; cases z)))); (focus (show R.length - (k + 1) < R.length - k; omega))))
                    · skip
                      have e1 : plF (D, none) (List.drop a0.toNat (List.take (R.getD ((k : Int)).toNat tRg.dflt).1.toNat b)) = (D, none) := if_pos hpre
                      have e2 : mgS b p q (R.getD ((k : Int)).toNat tRg.dflt).1 (R.getD ((k : Int)).toNat tRg.dflt).2.1 (D, none) = (D, some (raw b (R.getD ((k : Int)).toNat tRg.dflt).2.1 (R.getD ((k : Int)).toNat tRg.dflt).1 (inR q (R.getD ((k : Int)).toNat tRg.dflt).1 (R.getD ((k : Int)).toNat tRg.dflt).2.1))) := ((if_neg (fun z => z.elim hT hE)).trans (if_pos hM)).trans (if_neg hL)
                      rw [e1, e2] at hmN
                      replace hmN := Lib.hid hmN
                      clear e1 e2
                      dsimp only [mgH]
                      (repeat' (first | (with_reducible refine Step.mk True.intro ?_) | (with_reducible refine Step.mk ?_ ?_; focus (((try simp only [true_and, and_true, and_self, kmin, kmax, decide_eq_true_eq, decide_eq_false_iff_not, castD_self, castL_self, List.length_cons, List.length_nil, List.length_append, Int.natCast_add] at *) <;> omega))) | (with_reducible refine Step.mk ?_ ?_) | (with_reducible refine Way.t1 ?_) | (with_reducible refine Way.f1 ?_) | ((with_reducible refine Way.dec (fun zz => ?_) (fun zz => ?_)) <;> (try simp only [castD_self, castL_self] at zz) <;> try (exfalso; first | omega | contradiction)) | (with_reducible refine Way.nt ?_) | ((with_reducible refine Way.mk (fun _ => ?_) (fun _ => ?_)) <;> try (exfalso; rename_i hw; first | exact Bool.noConfusion ((Go.RowKit.Hid.out hcf).symm.trans hw) | exact Bool.noConfusion (hw.symm.trans (Go.RowKit.Hid.out hcf)))) | (with_reducible refine Drawn.mk (by kernel_rfl) ?_) | (refine Run.mk ?_)))
                      all_goals (
                        refine Cend.go ?_
                        (repeat' (first | (with_reducible refine Cend.go ?_) | (with_reducible refine Step.mk True.intro ?_) | (with_reducible refine Step.mk ?_ ?_; focus (((try simp only [true_and, and_true, and_self, kmin, kmax, decide_eq_true_eq, decide_eq_false_iff_not, castD_self, castL_self, List.length_cons, List.length_nil, List.length_append, Int.natCast_add] at *) <;> omega))) | (with_reducible refine Step.mk ?_ ?_) | (with_reducible refine Way.t1 ?_) | (with_reducible refine Way.f1 ?_) | ((with_reducible refine Way.dec (fun zz => ?_) (fun zz => ?_)) <;> (try simp only [castD_self, castL_self] at zz) <;> try (exfalso; first | omega | contradiction)) | (with_reducible refine Way.nt ?_) | ((with_reducible refine Way.mk (fun _ => ?_) (fun _ => ?_)) <;> try (exfalso; rename_i hw; first | exact Bool.noConfusion ((Go.RowKit.Hid.out hcf).symm.trans hw) | exact Bool.noConfusion (hw.symm.trans (Go.RowKit.Hid.out hcf)))) | (with_reducible refine Drawn.mk (by kernel_rfl) ?_) | (refine Run.mk ?_)))
                        all_goals first
                          | exact ⟨hpo.out, hpl⟩
                          | exact ⟨hqo.out, hql⟩
                          | exact ⟨hra.out, hbl, hil⟩
                          | exact ⟨hrb.out, hbl, hjl⟩
                          | exact hcl
                          | exact absurd (by assumption) hE
                          | (refine Back.by (k + 1, (R.getD ((k : Int)).toNat tRg.dflt).2.1, D, some (raw b (R.getD ((k : Int)).toNat tRg.dflt).2.1 (R.getD ((k : Int)).toNat tRg.dflt).1 (inR q (R.getD ((k : Int)).toNat tRg.dflt).1 (R.getD ((k : Int)).toNat tRg.dflt).2.1))) ?_ ?_ ?_; (focus (dsimp only [mgH]; (focus (refine Wk.ren [(91, 115034), (92, 115054)] rfl ?_ ?_ <;> repeat' (first | exact True.intro | refine And.intro rfl ?_ | refine And.intro (congrArg (fun z : Int => AV.v false [Lf.d (.int .i64) z]) (by first | omega | (simp only [Int.natCast_add, List.length_cons, List.length_append, List.length_nil]; omega))) ?_ | refine And.intro ?_ ?_))); done)); (focus (refine ⟨hlt, hrg.out, hmN.out, ?_, ?_, ?_⟩; (focus (show List.length _ ≤ 2 * (k + 1); (try simp only [List.length_append, List.length_cons, List.length_nil]); omega)); (focus (intro z; cases z)); (focus (intro L z; cases z; (try simp only [List.length_append]); omega)))); (focus (show R.length - (k + 1) < R.length - k; omega))))
                  · skip
                    have e1 : plF (D, none) (List.drop a0.toNat (List.take (R.getD ((k : Int)).toNat tRg.dflt).1.toNat b)) = (D, none) := if_pos hpre
                    have e2 : mgS b p q (R.getD ((k : Int)).toNat tRg.dflt).1 (R.getD ((k : Int)).toNat tRg.dflt).2.1 (D, none) = ((D ++ [(true, [], (List.drop (R.getD ((k : Int)).toNat tRg.dflt).1.toNat (List.take (R.getD ((k : Int)).toNat tRg.dflt).2.1.toNat b)), (raw b (R.getD ((k : Int)).toNat tRg.dflt).2.1 (R.getD ((k : Int)).toNat tRg.dflt).1 (inR p (R.getD ((k : Int)).toNat tRg.dflt).1 (R.getD ((k : Int)).toNat tRg.dflt).2.1)), (raw b (R.getD ((k : Int)).toNat tRg.dflt).2.1 (R.getD ((k : Int)).toNat tRg.dflt).1 (inR q (R.getD ((k : Int)).toNat tRg.dflt).1 (R.getD ((k : Int)).toNat tRg.dflt).2.1)))]), none) := (if_neg (fun z => z.elim hT hE)).trans (if_neg hM)
                    rw [e1, e2] at hmN
                    replace hmN := Lib.hid hmN
                    clear e1 e2
                    dsimp only [mgH]
                    (repeat' (first | (with_reducible refine Step.mk True.intro ?_) | (with_reducible refine Step.mk ?_ ?_; focus (((try simp only [true_and, and_true, and_self, kmin, kmax, decide_eq_true_eq, decide_eq_false_iff_not, castD_self, castL_self, List.length_cons, List.length_nil, List.length_append, Int.natCast_add] at *) <;> omega))) | (with_reducible refine Step.mk ?_ ?_) | (with_reducible refine Way.t1 ?_) | (with_reducible refine Way.f1 ?_) | ((with_reducible refine Way.dec (fun zz => ?_) (fun zz => ?_)) <;> (try simp only [castD_self, castL_self] at zz) <;> try (exfalso; first | omega | contradiction)) | (with_reducible refine Way.nt ?_) | ((with_reducible refine Way.mk (fun _ => ?_) (fun _ => ?_)) <;> try (exfalso; rename_i hw; first | exact Bool.noConfusion ((Go.RowKit.Hid.out hcf).symm.trans hw) | exact Bool.noConfusion (hw.symm.trans (Go.RowKit.Hid.out hcf)))) | (with_reducible refine Drawn.mk (by kernel_rfl) ?_) | (refine Run.mk ?_)))
                    all_goals (
                      refine Cend.go ?_
                      (repeat' (first | (with_reducible refine Cend.go ?_) | (with_reducible refine Step.mk True.intro ?_) | (with_reducible refine Step.mk ?_ ?_; focus (((try simp only [true_and, and_true, and_self, kmin, kmax, decide_eq_true_eq, decide_eq_false_iff_not, castD_self, castL_self, List.length_cons, List.length_nil, List.length_append, Int.natCast_add] at *) <;> omega))) | (with_reducible refine Step.mk ?_ ?_) | (with_reducible refine Way.t1 ?_) | (with_reducible refine Way.f1 ?_) | ((with_reducible refine Way.dec (fun zz => ?_) (fun zz => ?_)) <;> (try simp only [castD_self, castL_self] at zz) <;> try (exfalso; first | omega | contradiction)) | (with_reducible refine Way.nt ?_) | ((with_reducible refine Way.mk (fun _ => ?_) (fun _ => ?_)) <;> try (exfalso; rename_i hw; first | exact Bool.noConfusion ((Go.RowKit.Hid.out hcf).symm.trans hw) | exact Bool.noConfusion (hw.symm.trans (Go.RowKit.Hid.out hcf)))) | (with_reducible refine Drawn.mk (by kernel_rfl) ?_) | (refine Run.mk ?_)))
                      all_goals first
                        | exact ⟨hpo.out, hpl⟩
                        | exact ⟨hqo.out, hql⟩
                        | exact ⟨hra.out, hbl, hil⟩
                        | exact ⟨hrb.out, hbl, hjl⟩
                        | exact hcl
                        | exact absurd (by assumption) hE
                        | (refine Back.by (k + 1, (R.getD ((k : Int)).toNat tRg.dflt).2.1, (D ++ [(true, [], (List.drop (R.getD ((k : Int)).toNat tRg.dflt).1.toNat (List.take (R.getD ((k : Int)).toNat tRg.dflt).2.1.toNat b)), (raw b (R.getD ((k : Int)).toNat tRg.dflt).2.1 (R.getD ((k : Int)).toNat tRg.dflt).1 (inR p (R.getD ((k : Int)).toNat tRg.dflt).1 (R.getD ((k : Int)).toNat tRg.dflt).2.1)), (raw b (R.getD ((k : Int)).toNat tRg.dflt).2.1 (R.getD ((k : Int)).toNat tRg.dflt).1 (inR q (R.getD ((k : Int)).toNat tRg.dflt).1 (R.getD ((k : Int)).toNat tRg.dflt).2.1)))]), none) ?_ ?_ ?_; (focus (dsimp only [mgH]; refine Wk.trans (Wk.pack 96 (E := 40) (t := tCh) (l1 := D) (l2 := []) (x := (true, [], (List.drop (R.getD ((k : Int)).toNat tRg.dflt).1.toNat (List.take (R.getD ((k : Int)).toNat tRg.dflt).2.1.toNat b)), (raw b (R.getD ((k : Int)).toNat tRg.dflt).2.1 (R.getD ((k : Int)).toNat tRg.dflt).1 (inR p (R.getD ((k : Int)).toNat tRg.dflt).1 (R.getD ((k : Int)).toNat tRg.dflt).2.1)), (raw b (R.getD ((k : Int)).toNat tRg.dflt).2.1 (R.getD ((k : Int)).toNat tRg.dflt).1 (inR q (R.getD ((k : Int)).toNat tRg.dflt).1 (R.getD ((k : Int)).toNat tRg.dflt).2.1)))) (hl' := [.put 14 (.box 53 [.o 96]), .put 7 (.box 25 [.d (.int .i64) 0, .d (.int .i64) 0]), .put 10 (.box 44 [.d (.slice tHk) p]), .put 12 (.box 44 [.d (.slice tHk) q])]) rfl rfl (by repeat' (first | exact True.intro | refine And.intro rfl ?_)) rfl rfl) ?_; (focus (refine Wk.ren [(91, 96)] rfl ?_ ?_ <;> repeat' (first | exact True.intro | refine And.intro rfl ?_ | refine And.intro (congrArg (fun z : Int => AV.v false [Lf.d (.int .i64) z]) (by first | omega | (simp only [Int.natCast_add, List.length_cons, List.length_append, List.length_nil]; omega))) ?_ | refine And.intro ?_ ?_))); done)); (focus (refine ⟨hlt, hrg.out, hmN.out, ?_, ?_, ?_⟩; (focus (show List.length _ ≤ 2 * (k + 1); (try simp only [List.length_append, List.length_cons, List.length_nil]); omega)); (focus (intro _ _; exact congrArg Prod.fst (getD_last _ _ _))); (focus (intro L z; cases z)))); (focus (show R.length - (k + 1) < R.length - k; omega))))
            · skip
              by_cases hT : (inR q (R.getD ((k : Int)).toNat tRg.dflt).1 (R.getD ((k : Int)).toNat tRg.dflt).2.1).length = 0
              · by_cases hL : (raw b (R.getD ((k : Int)).toNat tRg.dflt).2.1 (R.getD ((k : Int)).toNat tRg.dflt).1 (inR p (R.getD ((k : Int)).toNat tRg.dflt).1 (R.getD ((k : Int)).toNat tRg.dflt).2.1)).length = 0
                · skip
                  have e1 : plF (D, none) (List.drop a0.toNat (List.take (R.getD ((k : Int)).toNat tRg.dflt).1.toNat b)) = (D, some (List.drop a0.toNat (List.take (R.getD ((k : Int)).toNat tRg.dflt).1.toNat b))) := if_neg hpre
                  have e2 : mgS b p q (R.getD ((k : Int)).toNat tRg.dflt).1 (R.getD ((k : Int)).toNat tRg.dflt).2.1 (D, some (List.drop a0.toNat (List.take (R.getD ((k : Int)).toNat tRg.dflt).1.toNat b))) = (D, some (List.drop a0.toNat (List.take (R.getD ((k : Int)).toNat tRg.dflt).1.toNat b))) := (if_pos (.inl hT)).trans (if_pos hL)
                  rw [e1, e2] at hmN
                  replace hmN := Lib.hid hmN
                  clear e1 e2
                  dsimp only [mgH]
                  (repeat' (first | (with_reducible refine Step.mk True.intro ?_) | (with_reducible refine Step.mk ?_ ?_; focus (((try simp only [true_and, and_true, and_self, kmin, kmax, decide_eq_true_eq, decide_eq_false_iff_not, castD_self, castL_self, List.length_cons, List.length_nil, List.length_append, Int.natCast_add] at *) <;> omega))) | (with_reducible refine Step.mk ?_ ?_) | (with_reducible refine Way.t1 ?_) | (with_reducible refine Way.f1 ?_) | ((with_reducible refine Way.dec (fun zz => ?_) (fun zz => ?_)) <;> (try simp only [castD_self, castL_self] at zz) <;> try (exfalso; first | omega | contradiction)) | (with_reducible refine Way.nt ?_) | ((with_reducible refine Way.mk (fun _ => ?_) (fun _ => ?_)) <;> try (exfalso; rename_i hw; first | exact Bool.noConfusion ((Go.RowKit.Hid.out hcf).symm.trans hw) | exact Bool.noConfusion (hw.symm.trans (Go.RowKit.Hid.out hcf)))) | (with_reducible refine Drawn.mk (by kernel_rfl) ?_) | (refine Run.mk ?_)))
                  all_goals (
                    refine Cend.go ?_
                    (repeat' (first | (with_reducible refine Cend.go ?_) | (with_reducible refine Step.mk True.intro ?_) | (with_reducible refine Step.mk ?_ ?_; focus (((try simp only [true_and, and_true, and_self, kmin, kmax, decide_eq_true_eq, decide_eq_false_iff_not, castD_self, castL_self, List.length_cons, List.length_nil, List.length_append, Int.natCast_add] at *) <;> omega))) | (with_reducible refine Step.mk ?_ ?_) | (with_reducible refine Way.t1 ?_) | (with_reducible refine Way.f1 ?_) | ((with_reducible refine Way.dec (fun zz => ?_) (fun zz => ?_)) <;> (try simp only [castD_self, castL_self] at zz) <;> try (exfalso; first | omega | contradiction)) | (with_reducible refine Way.nt ?_) | ((with_reducible refine Way.mk (fun _ => ?_) (fun _ => ?_)) <;> try (exfalso; rename_i hw; first | exact Bool.noConfusion ((Go.RowKit.Hid.out hcf).symm.trans hw) | exact Bool.noConfusion (hw.symm.trans (Go.RowKit.Hid.out hcf)))) | (with_reducible refine Drawn.mk (by kernel_rfl) ?_) | (refine Run.mk ?_)))
                    all_goals first
                      | exact ⟨hpo.out, hpl⟩
                      | exact ⟨hqo.out, hql⟩
                      | exact ⟨hra.out, hbl, hil⟩
                      | exact ⟨hrb.out, hbl, hjl⟩
                      | exact hcl
                      | (refine Back.by (k + 1, (R.getD ((k : Int)).toNat tRg.dflt).2.1, D, some (List.drop a0.toNat (List.take (R.getD ((k : Int)).toNat tRg.dflt).1.toNat b))) ?_ ?_ ?_; (focus (dsimp only [mgH]; (focus (refine Wk.ren [(91, 61034), (92, 61054)] rfl ?_ ?_ <;> repeat' (first | exact True.intro | refine And.intro rfl ?_ | refine And.intro (congrArg (fun z : Int => AV.v false [Lf.d (.int .i64) z]) (by first | omega | (simp only [Int.natCast_add, List.length_cons, List.length_append, List.length_nil]; omega))) ?_ | refine And.intro ?_ ?_))); done)); (focus (refine ⟨hlt, hrg.out, hmN.out, ?_, ?_, ?_⟩; (focus (show List.length _ ≤ 2 * (k + 1); (try simp only [List.length_append, List.length_cons, List.length_nil]); omega)); (focus (intro z; cases z)); (focus (intro L z; cases z; (try simp only [List.length_append]); omega)))); (focus (show R.length - (k + 1) < R.length - k; omega))))
                · skip
                  have e1 : plF (D, none) (List.drop a0.toNat (List.take (R.getD ((k : Int)).toNat tRg.dflt).1.toNat b)) = (D, some (List.drop a0.toNat (List.take (R.getD ((k : Int)).toNat tRg.dflt).1.toNat b))) := if_neg hpre
                  have e2 : mgS b p q (R.getD ((k : Int)).toNat tRg.dflt).1 (R.getD ((k : Int)).toNat tRg.dflt).2.1 (D, some (List.drop a0.toNat (List.take (R.getD ((k : Int)).toNat tRg.dflt).1.toNat b))) = (D, some ((List.drop a0.toNat (List.take (R.getD ((k : Int)).toNat tRg.dflt).1.toNat b)) ++ (raw b (R.getD ((k : Int)).toNat tRg.dflt).2.1 (R.getD ((k : Int)).toNat tRg.dflt).1 (inR p (R.getD ((k : Int)).toNat tRg.dflt).1 (R.getD ((k : Int)).toNat tRg.dflt).2.1)))) := (if_pos (.inl hT)).trans (if_neg hL)
                  rw [e1, e2] at hmN
                  replace hmN := Lib.hid hmN
                  clear e1 e2
                  dsimp only [mgH]
                  (repeat' (first | (with_reducible refine Step.mk True.intro ?_) | (with_reducible refine Step.mk ?_ ?_; focus (((try simp only [true_and, and_true, and_self, kmin, kmax, decide_eq_true_eq, decide_eq_false_iff_not, castD_self, castL_self, List.length_cons, List.length_nil, List.length_append, Int.natCast_add] at *) <;> omega))) | (with_reducible refine Step.mk ?_ ?_) | (with_reducible refine Way.t1 ?_) | (with_reducible refine Way.f1 ?_) | ((with_reducible refine Way.dec (fun zz => ?_) (fun zz => ?_)) <;> (try simp only [castD_self, castL_self] at zz) <;> try (exfalso; first | omega | contradiction)) | (with_reducible refine Way.nt ?_) | ((with_reducible refine Way.mk (fun _ => ?_) (fun _ => ?_)) <;> try (exfalso; rename_i hw; first | exact Bool.noConfusion ((Go.RowKit.Hid.out hcf).symm.trans hw) | exact Bool.noConfusion (hw.symm.trans (Go.RowKit.Hid.out hcf)))) | (with_reducible refine Drawn.mk (by kernel_rfl) ?_) | (refine Run.mk ?_)))
                  all_goals (
                    refine Cend.go ?_
                    (repeat' (first | (with_reducible refine Cend.go ?_) | (with_reducible refine Step.mk True.intro ?_) | (with_reducible refine Step.mk ?_ ?_; focus (((try simp only [true_and, and_true, and_self, kmin, kmax, decide_eq_true_eq, decide_eq_false_iff_not, castD_self, castL_self, List.length_cons, List.length_nil, List.length_append, Int.natCast_add] at *) <;> omega))) | (with_reducible refine Step.mk ?_ ?_) | (with_reducible refine Way.t1 ?_) | (with_reducible refine Way.f1 ?_) | ((with_reducible refine Way.dec (fun zz => ?_) (fun zz => ?_)) <;> (try simp only [castD_self, castL_self] at zz) <;> try (exfalso; first | omega | contradiction)) | (with_reducible refine Way.nt ?_) | ((with_reducible refine Way.mk (fun _ => ?_) (fun _ => ?_)) <;> try (exfalso; rename_i hw; first | exact Bool.noConfusion ((Go.RowKit.Hid.out hcf).symm.trans hw) | exact Bool.noConfusion (hw.symm.trans (Go.RowKit.Hid.out hcf)))) | (with_reducible refine Drawn.mk (by kernel_rfl) ?_) | (refine Run.mk ?_)))
                    all_goals first
                      | exact ⟨hpo.out, hpl⟩
                      | exact ⟨hqo.out, hql⟩
                      | exact ⟨hra.out, hbl, hil⟩
                      | exact ⟨hrb.out, hbl, hjl⟩
                      | exact hcl
                      | (refine Back.by (k + 1, (R.getD ((k : Int)).toNat tRg.dflt).2.1, D, some ((List.drop a0.toNat (List.take (R.getD ((k : Int)).toNat tRg.dflt).1.toNat b)) ++ (raw b (R.getD ((k : Int)).toNat tRg.dflt).2.1 (R.getD ((k : Int)).toNat tRg.dflt).1 (inR p (R.getD ((k : Int)).toNat tRg.dflt).1 (R.getD ((k : Int)).toNat tRg.dflt).2.1)))) ?_ ?_ ?_; (focus (dsimp only [mgH]; (focus (refine Wk.ren [(91, 61034), (92, 109054)] rfl ?_ ?_ <;> repeat' (first | exact True.intro | refine And.intro rfl ?_ | refine And.intro (congrArg (fun z : Int => AV.v false [Lf.d (.int .i64) z]) (by first | omega | (simp only [Int.natCast_add, List.length_cons, List.length_append, List.length_nil]; omega))) ?_ | refine And.intro ?_ ?_))); done)); (focus (refine ⟨hlt, hrg.out, hmN.out, ?_, ?_, ?_⟩; (focus (show List.length _ ≤ 2 * (k + 1); (try simp only [List.length_append, List.length_cons, List.length_nil]); omega)); (focus (intro z; cases z)); (focus (intro L z; cases z; (try simp only [List.length_append]); omega)))); (focus (show R.length - (k + 1) < R.length - k; omega))))
              · by_cases hE : (raw b (R.getD ((k : Int)).toNat tRg.dflt).2.1 (R.getD ((k : Int)).toNat tRg.dflt).1 (inR p (R.getD ((k : Int)).toNat tRg.dflt).1 (R.getD ((k : Int)).toNat tRg.dflt).2.1)) = (raw b (R.getD ((k : Int)).toNat tRg.dflt).2.1 (R.getD ((k : Int)).toNat tRg.dflt).1 (inR q (R.getD ((k : Int)).toNat tRg.dflt).1 (R.getD ((k : Int)).toNat tRg.dflt).2.1))
                · by_cases hL : (raw b (R.getD ((k : Int)).toNat tRg.dflt).2.1 (R.getD ((k : Int)).toNat tRg.dflt).1 (inR p (R.getD ((k : Int)).toNat tRg.dflt).1 (R.getD ((k : Int)).toNat tRg.dflt).2.1)).length = 0
                  · skip
                    have e1 : plF (D, none) (List.drop a0.toNat (List.take (R.getD ((k : Int)).toNat tRg.dflt).1.toNat b)) = (D, some (List.drop a0.toNat (List.take (R.getD ((k : Int)).toNat tRg.dflt).1.toNat b))) := if_neg hpre
                    have e2 : mgS b p q (R.getD ((k : Int)).toNat tRg.dflt).1 (R.getD ((k : Int)).toNat tRg.dflt).2.1 (D, some (List.drop a0.toNat (List.take (R.getD ((k : Int)).toNat tRg.dflt).1.toNat b))) = (D, some (List.drop a0.toNat (List.take (R.getD ((k : Int)).toNat tRg.dflt).1.toNat b))) := (if_pos (.inr hE)).trans (if_pos hL)
                    rw [e1, e2] at hmN
                    replace hmN := Lib.hid hmN
                    clear e1 e2
                    dsimp only [mgH]
                    (repeat' (first | (with_reducible refine Step.mk True.intro ?_) | (with_reducible refine Step.mk ?_ ?_; focus (((try simp only [true_and, and_true, and_self, kmin, kmax, decide_eq_true_eq, decide_eq_false_iff_not, castD_self, castL_self, List.length_cons, List.length_nil, List.length_append, Int.natCast_add] at *) <;> omega))) | (with_reducible refine Step.mk ?_ ?_) | (with_reducible refine Way.t1 ?_) | (with_reducible refine Way.f1 ?_) | ((with_reducible refine Way.dec (fun zz => ?_) (fun zz => ?_)) <;> (try simp only [castD_self, castL_self] at zz) <;> try (exfalso; first | omega | contradiction)) | (with_reducible refine Way.nt ?_) | ((with_reducible refine Way.mk (fun _ => ?_) (fun _ => ?_)) <;> try (exfalso; rename_i hw; first | exact Bool.noConfusion ((Go.RowKit.Hid.out hcf).symm.trans hw) | exact Bool.noConfusion (hw.symm.trans (Go.RowKit.Hid.out hcf)))) | (with_reducible refine Drawn.mk (by kernel_rfl) ?_) | (refine Run.mk ?_)))
                    all_goals (
                      refine Cend.go ?_
                      (repeat' (first | (with_reducible refine Cend.go ?_) | (with_reducible refine Step.mk True.intro ?_) | (with_reducible refine Step.mk ?_ ?_; focus (((try simp only [true_and, and_true, and_self, kmin, kmax, decide_eq_true_eq, decide_eq_false_iff_not, castD_self, castL_self, List.length_cons, List.length_nil, List.length_append, Int.natCast_add] at *) <;> omega))) | (with_reducible refine Step.mk ?_ ?_) | (with_reducible refine Way.t1 ?_) | (with_reducible refine Way.f1 ?_) | ((with_reducible refine Way.dec (fun zz => ?_) (fun zz => ?_)) <;> (try simp only [castD_self, castL_self] at zz) <;> try (exfalso; first | omega | contradiction)) | (with_reducible refine Way.nt ?_) | ((with_reducible refine Way.mk (fun _ => ?_) (fun _ => ?_)) <;> try (exfalso; rename_i hw; first | exact Bool.noConfusion ((Go.RowKit.Hid.out hcf).symm.trans hw) | exact Bool.noConfusion (hw.symm.trans (Go.RowKit.Hid.out hcf)))) | (with_reducible refine Drawn.mk (by kernel_rfl) ?_) | (refine Run.mk ?_)))
                      all_goals first
                        | exact ⟨hpo.out, hpl⟩
                        | exact ⟨hqo.out, hql⟩
                        | exact ⟨hra.out, hbl, hil⟩
                        | exact ⟨hrb.out, hbl, hjl⟩
                        | exact hcl
                        | exact absurd hE (by assumption)
                        | (refine Back.by (k + 1, (R.getD ((k : Int)).toNat tRg.dflt).2.1, D, some (List.drop a0.toNat (List.take (R.getD ((k : Int)).toNat tRg.dflt).1.toNat b))) ?_ ?_ ?_; (focus (dsimp only [mgH]; (focus (refine Wk.ren [(91, 61034), (92, 61054)] rfl ?_ ?_ <;> repeat' (first | exact True.intro | refine And.intro rfl ?_ | refine And.intro (congrArg (fun z : Int => AV.v false [Lf.d (.int .i64) z]) (by first | omega | (simp only [Int.natCast_add, List.length_cons, List.length_append, List.length_nil]; omega))) ?_ | refine And.intro ?_ ?_))); done)); (focus (refine ⟨hlt, hrg.out, hmN.out, ?_, ?_, ?_⟩; (focus (show List.length _ ≤ 2 * (k + 1); (try simp only [List.length_append, List.length_cons, List.length_nil]); omega)); (focus (intro z; cases z)); (focus (intro L z; cases z; (try simp only [List.length_append]); omega)))); (focus (show R.length - (k + 1) < R.length - k; omega))))
                  · skip
                    have e1 : plF (D, none) (List.drop a0.toNat (List.take (R.getD ((k : Int)).toNat tRg.dflt).1.toNat b)) = (D, some (List.drop a0.toNat (List.take (R.getD ((k : Int)).toNat tRg.dflt).1.toNat b))) := if_neg hpre
                    have e2 : mgS b p q (R.getD ((k : Int)).toNat tRg.dflt).1 (R.getD ((k : Int)).toNat tRg.dflt).2.1 (D, some (List.drop a0.toNat (List.take (R.getD ((k : Int)).toNat tRg.dflt).1.toNat b))) = (D, some ((List.drop a0.toNat (List.take (R.getD ((k : Int)).toNat tRg.dflt).1.toNat b)) ++ (raw b (R.getD ((k : Int)).toNat tRg.dflt).2.1 (R.getD ((k : Int)).toNat tRg.dflt).1 (inR p (R.getD ((k : Int)).toNat tRg.dflt).1 (R.getD ((k : Int)).toNat tRg.dflt).2.1)))) := (if_pos (.inr hE)).trans (if_neg hL)
                    rw [e1, e2] at hmN
                    replace hmN := Lib.hid hmN
                    clear e1 e2
                    dsimp only [mgH]
                    (repeat' (first | (with_reducible refine Step.mk True.intro ?_) | (with_reducible refine Step.mk ?_ ?_; focus (((try simp only [true_and, and_true, and_self, kmin, kmax, decide_eq_true_eq, decide_eq_false_iff_not, castD_self, castL_self, List.length_cons, List.length_nil, List.length_append, Int.natCast_add] at *) <;> omega))) | (with_reducible refine Step.mk ?_ ?_) | (with_reducible refine Way.t1 ?_) | (with_reducible refine Way.f1 ?_) | ((with_reducible refine Way.dec (fun zz => ?_) (fun zz => ?_)) <;> (try simp only [castD_self, castL_self] at zz) <;> try (exfalso; first | omega | contradiction)) | (with_reducible refine Way.nt ?_) | ((with_reducible refine Way.mk (fun _ => ?_) (fun _ => ?_)) <;> try (exfalso; rename_i hw; first | exact Bool.noConfusion ((Go.RowKit.Hid.out hcf).symm.trans hw) | exact Bool.noConfusion (hw.symm.trans (Go.RowKit.Hid.out hcf)))) | (with_reducible refine Drawn.mk (by kernel_rfl) ?_) | (refine Run.mk ?_)))
                    all_goals (
                      refine Cend.go ?_
                      (repeat' (first | (with_reducible refine Cend.go ?_) | (with_reducible refine Step.mk True.intro ?_) | (with_reducible refine Step.mk ?_ ?_; focus (((try simp only [true_and, and_true, and_self, kmin, kmax, decide_eq_true_eq, decide_eq_false_iff_not, castD_self, castL_self, List.length_cons, List.length_nil, List.length_append, Int.natCast_add] at *) <;> omega))) | (with_reducible refine Step.mk ?_ ?_) | (with_reducible refine Way.t1 ?_) | (with_reducible refine Way.f1 ?_) | ((with_reducible refine Way.dec (fun zz => ?_) (fun zz => ?_)) <;> (try simp only [castD_self, castL_self] at zz) <;> try (exfalso; first | omega | contradiction)) | (with_reducible refine Way.nt ?_) | ((with_reducible refine Way.mk (fun _ => ?_) (fun _ => ?_)) <;> try (exfalso; rename_i hw; first | exact Bool.noConfusion ((Go.RowKit.Hid.out hcf).symm.trans hw) | exact Bool.noConfusion (hw.symm.trans (Go.RowKit.Hid.out hcf)))) | (with_reducible refine Drawn.mk (by kernel_rfl) ?_) | (refine Run.mk ?_)))
                      all_goals first
                        | exact ⟨hpo.out, hpl⟩
                        | exact ⟨hqo.out, hql⟩
                        | exact ⟨hra.out, hbl, hil⟩
                        | exact ⟨hrb.out, hbl, hjl⟩
                        | exact hcl
                        | exact absurd hE (by assumption)
                        | (refine Back.by (k + 1, (R.getD ((k : Int)).toNat tRg.dflt).2.1, D, some ((List.drop a0.toNat (List.take (R.getD ((k : Int)).toNat tRg.dflt).1.toNat b)) ++ (raw b (R.getD ((k : Int)).toNat tRg.dflt).2.1 (R.getD ((k : Int)).toNat tRg.dflt).1 (inR p (R.getD ((k : Int)).toNat tRg.dflt).1 (R.getD ((k : Int)).toNat tRg.dflt).2.1)))) ?_ ?_ ?_; (focus (dsimp only [mgH]; (focus (refine Wk.ren [(91, 61034), (92, 109054)] rfl ?_ ?_ <;> repeat' (first | exact True.intro | refine And.intro rfl ?_ | refine And.intro (congrArg (fun z : Int => AV.v false [Lf.d (.int .i64) z]) (by first | omega | (simp only [Int.natCast_add, List.length_cons, List.length_append, List.length_nil]; omega))) ?_ | refine And.intro ?_ ?_))); done)); (focus (refine ⟨hlt, hrg.out, hmN.out, ?_, ?_, ?_⟩; (focus (show List.length _ ≤ 2 * (k + 1); (try simp only [List.length_append, List.length_cons, List.length_nil]); omega)); (focus (intro z; cases z)); (focus (intro L z; cases z; (try simp only [List.length_append]); omega)))); (focus (show R.length - (k + 1) < R.length - k; omega))))
                · by_cases hM : (inR p (R.getD ((k : Int)).toNat tRg.dflt).1 (R.getD ((k : Int)).toNat tRg.dflt).2.1).length = 0
                  · by_cases hL : (raw b (R.getD ((k : Int)).toNat tRg.dflt).2.1 (R.getD ((k : Int)).toNat tRg.dflt).1 (inR q (R.getD ((k : Int)).toNat tRg.dflt).1 (R.getD ((k : Int)).toNat tRg.dflt).2.1)).length = 0
                    · skip
                      have e1 : plF (D, none) (List.drop a0.toNat (List.take (R.getD ((k : Int)).toNat tRg.dflt).1.toNat b)) = (D, some (List.drop a0.toNat (List.take (R.getD ((k : Int)).toNat tRg.dflt).1.toNat b))) := if_neg hpre
                      have e2 : mgS b p q (R.getD ((k : Int)).toNat tRg.dflt).1 (R.getD ((k : Int)).toNat tRg.dflt).2.1 (D, some (List.drop a0.toNat (List.take (R.getD ((k : Int)).toNat tRg.dflt).1.toNat b))) = (D, some (List.drop a0.toNat (List.take (R.getD ((k : Int)).toNat tRg.dflt).1.toNat b))) := ((if_neg (fun z => z.elim hT hE)).trans (if_pos hM)).trans (if_pos hL)
                      rw [e1, e2] at hmN
                      replace hmN := Lib.hid hmN
                      clear e1 e2
                      dsimp only [mgH]
                      (repeat' (first | (with_reducible refine Step.mk True.intro ?_) | (with_reducible refine Step.mk ?_ ?_; focus (((try simp only [true_and, and_true, and_self, kmin, kmax, decide_eq_true_eq, decide_eq_false_iff_not, castD_self, castL_self, List.length_cons, List.length_nil, List.length_append, Int.natCast_add] at *) <;> omega))) | (with_reducible refine Step.mk ?_ ?_) | (with_reducible refine Way.t1 ?_) | (with_reducible refine Way.f1 ?_) | ((with_reducible refine Way.dec (fun zz => ?_) (fun zz => ?_)) <;> (try simp only [castD_self, castL_self] at zz) <;> try (exfalso; first | omega | contradiction)) | (with_reducible refine Way.nt ?_) | ((with_reducible refine Way.mk (fun _ => ?_) (fun _ => ?_)) <;> try (exfalso; rename_i hw; first | exact Bool.noConfusion ((Go.RowKit.Hid.out hcf).symm.trans hw) | exact Bool.noConfusion (hw.symm.trans (Go.RowKit.Hid.out hcf)))) | (with_reducible refine Drawn.mk (by kernel_rfl) ?_) | (refine Run.mk ?_)))
                      all_goals (
                        refine Cend.go ?_
                        (repeat' (first | (with_reducible refine Cend.go ?_) | (with_reducible refine Step.mk True.intro ?_) | (with_reducible refine Step.mk ?_ ?_; focus (((try simp only [true_and, and_true, and_self, kmin, kmax, decide_eq_true_eq, decide_eq_false_iff_not, castD_self, castL_self, List.length_cons, List.length_nil, List.length_append, Int.natCast_add] at *) <;> omega))) | (with_reducible refine Step.mk ?_ ?_) | (with_reducible refine Way.t1 ?_) | (with_reducible refine Way.f1 ?_) | ((with_reducible refine Way.dec (fun zz => ?_) (fun zz => ?_)) <;> (try simp only [castD_self, castL_self] at zz) <;> try (exfalso; first | omega | contradiction)) | (with_reducible refine Way.nt ?_) | ((with_reducible refine Way.mk (fun _ => ?_) (fun _ => ?_)) <;> try (exfalso; rename_i hw; first | exact Bool.noConfusion ((Go.RowKit.Hid.out hcf).symm.trans hw) | exact Bool.noConfusion (hw.symm.trans (Go.RowKit.Hid.out hcf)))) | (with_reducible refine Drawn.mk (by kernel_rfl) ?_) | (refine Run.mk ?_)))
                        all_goals first
                          | exact ⟨hpo.out, hpl⟩
                          | exact ⟨hqo.out, hql⟩
                          | exact ⟨hra.out, hbl, hil⟩
                          | exact ⟨hrb.out, hbl, hjl⟩
                          | exact hcl
                          | exact absurd (by assumption) hE
                          | (refine Back.by (k + 1, (R.getD ((k : Int)).toNat tRg.dflt).2.1, D, some (List.drop a0.toNat (List.take (R.getD ((k : Int)).toNat tRg.dflt).1.toNat b))) ?_ ?_ ?_; (focus (dsimp only [mgH]; (focus (refine Wk.ren [(91, 61034), (92, 61054)] rfl ?_ ?_ <;> repeat' (first | exact True.intro | refine And.intro rfl ?_ | refine And.intro (congrArg (fun z : Int => AV.v false [Lf.d (.int .i64) z]) (by first | omega | (simp only [Int.natCast_add, List.length_cons, List.length_append, List.length_nil]; omega))) ?_ | refine And.intro ?_ ?_))); done)); (focus (refine ⟨hlt, hrg.out, hmN.out, ?_, ?_, ?_⟩; (focus (show List.length _ ≤ 2 * (k + 1); (try simp only [List.length_append, List.length_cons, List.length_nil]); omega)); (focus (intro z; cases z)); (focus (intro L z; cases z; (try simp only [List.length_append]); omega)))); (focus (show R.length - (k + 1) < R.length - k; omega))))
                    · skip
                      have e1 : plF (D, none) (List.drop a0.toNat (List.take (R.getD ((k : Int)).toNat tRg.dflt).1.toNat b)) = (D, some (List.drop a0.toNat (List.take (R.getD ((k : Int)).toNat tRg.dflt).1.toNat b))) := if_neg hpre
                      have e2 : mgS b p q (R.getD ((k : Int)).toNat tRg.dflt).1 (R.getD ((k : Int)).toNat tRg.dflt).2.1 (D, some (List.drop a0.toNat (List.take (R.getD ((k : Int)).toNat tRg.dflt).1.toNat b))) = (D, some ((List.drop a0.toNat (List.take (R.getD ((k : Int)).toNat tRg.dflt).1.toNat b)) ++ (raw b (R.getD ((k : Int)).toNat tRg.dflt).2.1 (R.getD ((k : Int)).toNat tRg.dflt).1 (inR q (R.getD ((k : Int)).toNat tRg.dflt).1 (R.getD ((k : Int)).toNat tRg.dflt).2.1)))) := ((if_neg (fun z => z.elim hT hE)).trans (if_pos hM)).trans (if_neg hL)
                      rw [e1, e2] at hmN
                      replace hmN := Lib.hid hmN
                      clear e1 e2
                      dsimp only [mgH]
                      (repeat' (first | (with_reducible refine Step.mk True.intro ?_) | (with_reducible refine Step.mk ?_ ?_; focus (((try simp only [true_and, and_true, and_self, kmin, kmax, decide_eq_true_eq, decide_eq_false_iff_not, castD_self, castL_self, List.length_cons, List.length_nil, List.length_append, Int.natCast_add] at *) <;> omega))) | (with_reducible refine Step.mk ?_ ?_) | (with_reducible refine Way.t1 ?_) | (with_reducible refine Way.f1 ?_) | ((with_reducible refine Way.dec (fun zz => ?_) (fun zz => ?_)) <;> (try simp only [castD_self, castL_self] at zz) <;> try (exfalso; first | omega | contradiction)) | (with_reducible refine Way.nt ?_) | ((with_reducible refine Way.mk (fun _ => ?_) (fun _ => ?_)) <;> try (exfalso; rename_i hw; first | exact Bool.noConfusion ((Go.RowKit.Hid.out hcf).symm.trans hw) | exact Bool.noConfusion (hw.symm.trans (Go.RowKit.Hid.out hcf)))) | (with_reducible refine Drawn.mk (by kernel_rfl) ?_) | (refine Run.mk ?_)))
                      all_goals (
                        refine Cend.go ?_
                        (repeat' (first | (with_reducible refine Cend.go ?_) | (with_reducible refine Step.mk True.intro ?_) | (with_reducible refine Step.mk ?_ ?_; focus (((try simp only [true_and, and_true, and_self, kmin, kmax, decide_eq_true_eq, decide_eq_false_iff_not, castD_self, castL_self, List.length_cons, List.length_nil, List.length_append, Int.natCast_add] at *) <;> omega))) | (with_reducible refine Step.mk ?_ ?_) | (with_reducible refine Way.t1 ?_) | (with_reducible refine Way.f1 ?_) | ((with_reducible refine Way.dec (fun zz => ?_) (fun zz => ?_)) <;> (try simp only [castD_self, castL_self] at zz) <;> try (exfalso; first | omega | contradiction)) | (with_reducible refine Way.nt ?_) | ((with_reducible refine Way.mk (fun _ => ?_) (fun _ => ?_)) <;> try (exfalso; rename_i hw; first | exact Bool.noConfusion ((Go.RowKit.Hid.out hcf).symm.trans hw) | exact Bool.noConfusion (hw.symm.trans (Go.RowKit.Hid.out hcf)))) | (with_reducible refine Drawn.mk (by kernel_rfl) ?_) | (refine Run.mk ?_)))
                        all_goals first
                          | exact ⟨hpo.out, hpl⟩
                          | exact ⟨hqo.out, hql⟩
                          | exact ⟨hra.out, hbl, hil⟩
                          | exact ⟨hrb.out, hbl, hjl⟩
                          | exact hcl
                          | exact absurd (by assumption) hE
                          | (refine Back.by (k + 1, (R.getD ((k : Int)).toNat tRg.dflt).2.1, D, some ((List.drop a0.toNat (List.take (R.getD ((k : Int)).toNat tRg.dflt).1.toNat b)) ++ (raw b (R.getD ((k : Int)).toNat tRg.dflt).2.1 (R.getD ((k : Int)).toNat tRg.dflt).1 (inR q (R.getD ((k : Int)).toNat tRg.dflt).1 (R.getD ((k : Int)).toNat tRg.dflt).2.1)))) ?_ ?_ ?_; (focus (dsimp only [mgH]; (focus (refine Wk.ren [(91, 61034), (92, 115054)] rfl ?_ ?_ <;> repeat' (first | exact True.intro | refine And.intro rfl ?_ | refine And.intro (congrArg (fun z : Int => AV.v false [Lf.d (.int .i64) z]) (by first | omega | (simp only [Int.natCast_add, List.length_cons, List.length_append, List.length_nil]; omega))) ?_ | refine And.intro ?_ ?_))); done)); (focus (refine ⟨hlt, hrg.out, hmN.out, ?_, ?_, ?_⟩; (focus (show List.length _ ≤ 2 * (k + 1); (try simp only [List.length_append, List.length_cons, List.length_nil]); omega)); (focus (intro z; cases z)); (focus (intro L z; cases z; (try simp only [List.length_append]); omega)))); (focus (show R.length - (k + 1) < R.length - k; omega))))
                  · skip
                    have e1 : plF (D, none) (List.drop a0.toNat (List.take (R.getD ((k : Int)).toNat tRg.dflt).1.toNat b)) = (D, some (List.drop a0.toNat (List.take (R.getD ((k : Int)).toNat tRg.dflt).1.toNat b))) := if_neg hpre
                    have e2 : mgS b p q (R.getD ((k : Int)).toNat tRg.dflt).1 (R.getD ((k : Int)).toNat tRg.dflt).2.1 (D, some (List.drop a0.toNat (List.take (R.getD ((k : Int)).toNat tRg.dflt).1.toNat b))) = (((D ++ [plCh (List.drop a0.toNat (List.take (R.getD ((k : Int)).toNat tRg.dflt).1.toNat b))]) ++ [(true, [], (List.drop (R.getD ((k : Int)).toNat tRg.dflt).1.toNat (List.take (R.getD ((k : Int)).toNat tRg.dflt).2.1.toNat b)), (raw b (R.getD ((k : Int)).toNat tRg.dflt).2.1 (R.getD ((k : Int)).toNat tRg.dflt).1 (inR p (R.getD ((k : Int)).toNat tRg.dflt).1 (R.getD ((k : Int)).toNat tRg.dflt).2.1)), (raw b (R.getD ((k : Int)).toNat tRg.dflt).2.1 (R.getD ((k : Int)).toNat tRg.dflt).1 (inR q (R.getD ((k : Int)).toNat tRg.dflt).1 (R.getD ((k : Int)).toNat tRg.dflt).2.1)))]), none) := (if_neg (fun z => z.elim hT hE)).trans (if_neg hM)
                    rw [e1, e2] at hmN
                    replace hmN := Lib.hid hmN
                    clear e1 e2
                    dsimp only [mgH]
                    (repeat' (first | (with_reducible refine Step.mk True.intro ?_) | (with_reducible refine Step.mk ?_ ?_; focus (((try simp only [true_and, and_true, and_self, kmin, kmax, decide_eq_true_eq, decide_eq_false_iff_not, castD_self, castL_self, List.length_cons, List.length_nil, List.length_append, Int.natCast_add] at *) <;> omega))) | (with_reducible refine Step.mk ?_ ?_) | (with_reducible refine Way.t1 ?_) | (with_reducible refine Way.f1 ?_) | ((with_reducible refine Way.dec (fun zz => ?_) (fun zz => ?_)) <;> (try simp only [castD_self, castL_self] at zz) <;> try (exfalso; first | omega | contradiction)) | (with_reducible refine Way.nt ?_) | ((with_reducible refine Way.mk (fun _ => ?_) (fun _ => ?_)) <;> try (exfalso; rename_i hw; first | exact Bool.noConfusion ((Go.RowKit.Hid.out hcf).symm.trans hw) | exact Bool.noConfusion (hw.symm.trans (Go.RowKit.Hid.out hcf)))) | (with_reducible refine Drawn.mk (by kernel_rfl) ?_) | (refine Run.mk ?_)))
                    all_goals (
                      refine Cend.wk (fun n => Wk.pack 61034 (E := 40) (t := tCh) (l1 := D) (l2 := []) (x := plCh (List.drop a0.toNat (List.take (R.getD ((k : Int)).toNat tRg.dflt).1.toNat b))) (hl' := [.put 14 (.box 53 [.o 61034]), .put 7 (.box 25 [.d (.int .i64) 0, .d (.int .i64) 0]), .put 10 (.box 44 [.d (.slice tHk) p]), .put 12 (.box 44 [.d (.slice tHk) q]), .put 17 (.box 57 [.d (.int .i64) (R.getD ((k : Int)).toNat tRg.dflt).1, .d (.int .i64) (R.getD ((k : Int)).toNat tRg.dflt).2.1, .d (.int .i64) (R.getD ((k : Int)).toNat tRg.dflt).2.2])]) rfl rfl (by repeat' (first | exact True.intro | refine And.intro rfl ?_)) rfl rfl) ?_
                      (repeat' (first | (with_reducible refine Cend.go ?_) | (with_reducible refine Step.mk True.intro ?_) | (with_reducible refine Step.mk ?_ ?_; focus (((try simp only [true_and, and_true, and_self, kmin, kmax, decide_eq_true_eq, decide_eq_false_iff_not, castD_self, castL_self, List.length_cons, List.length_nil, List.length_append, Int.natCast_add] at *) <;> omega))) | (with_reducible refine Step.mk ?_ ?_) | (with_reducible refine Way.t1 ?_) | (with_reducible refine Way.f1 ?_) | ((with_reducible refine Way.dec (fun zz => ?_) (fun zz => ?_)) <;> (try simp only [castD_self, castL_self] at zz) <;> try (exfalso; first | omega | contradiction)) | (with_reducible refine Way.nt ?_) | ((with_reducible refine Way.mk (fun _ => ?_) (fun _ => ?_)) <;> try (exfalso; rename_i hw; first | exact Bool.noConfusion ((Go.RowKit.Hid.out hcf).symm.trans hw) | exact Bool.noConfusion (hw.symm.trans (Go.RowKit.Hid.out hcf)))) | (with_reducible refine Drawn.mk (by kernel_rfl) ?_) | (refine Run.mk ?_)))
                      all_goals first
                        | exact ⟨hpo.out, hpl⟩
                        | exact ⟨hqo.out, hql⟩
                        | exact ⟨hra.out, hbl, hil⟩
                        | exact ⟨hrb.out, hbl, hjl⟩
                        | exact hcl
                        | exact absurd (by assumption) hE
                        | (refine Back.by (k + 1, (R.getD ((k : Int)).toNat tRg.dflt).2.1, ((D ++ [plCh (List.drop a0.toNat (List.take (R.getD ((k : Int)).toNat tRg.dflt).1.toNat b))]) ++ [(true, [], (List.drop (R.getD ((k : Int)).toNat tRg.dflt).1.toNat (List.take (R.getD ((k : Int)).toNat tRg.dflt).2.1.toNat b)), (raw b (R.getD ((k : Int)).toNat tRg.dflt).2.1 (R.getD ((k : Int)).toNat tRg.dflt).1 (inR p (R.getD ((k : Int)).toNat tRg.dflt).1 (R.getD ((k : Int)).toNat tRg.dflt).2.1)), (raw b (R.getD ((k : Int)).toNat tRg.dflt).2.1 (R.getD ((k : Int)).toNat tRg.dflt).1 (inR q (R.getD ((k : Int)).toNat tRg.dflt).1 (R.getD ((k : Int)).toNat tRg.dflt).2.1)))]), none) ?_ ?_ ?_; (focus (dsimp only [mgH]; refine Wk.trans (Wk.pack 96 (E := 40) (t := tCh) (l1 := (D ++ [plCh (List.drop a0.toNat (List.take (R.getD ((k : Int)).toNat tRg.dflt).1.toNat b))])) (l2 := []) (x := (true, [], (List.drop (R.getD ((k : Int)).toNat tRg.dflt).1.toNat (List.take (R.getD ((k : Int)).toNat tRg.dflt).2.1.toNat b)), (raw b (R.getD ((k : Int)).toNat tRg.dflt).2.1 (R.getD ((k : Int)).toNat tRg.dflt).1 (inR p (R.getD ((k : Int)).toNat tRg.dflt).1 (R.getD ((k : Int)).toNat tRg.dflt).2.1)), (raw b (R.getD ((k : Int)).toNat tRg.dflt).2.1 (R.getD ((k : Int)).toNat tRg.dflt).1 (inR q (R.getD ((k : Int)).toNat tRg.dflt).1 (R.getD ((k : Int)).toNat tRg.dflt).2.1)))) (hl' := [.put 14 (.box 53 [.o 96]), .put 7 (.box 25 [.d (.int .i64) 0, .d (.int .i64) 0]), .put 10 (.box 44 [.d (.slice tHk) p]), .put 12 (.box 44 [.d (.slice tHk) q])]) rfl rfl (by repeat' (first | exact True.intro | refine And.intro rfl ?_)) rfl rfl) ?_; (focus (refine Wk.ren [(91, 96)] rfl ?_ ?_ <;> repeat' (first | exact True.intro | refine And.intro rfl ?_ | refine And.intro (congrArg (fun z : Int => AV.v false [Lf.d (.int .i64) z]) (by first | omega | (simp only [Int.natCast_add, List.length_cons, List.length_append, List.length_nil]; omega))) ?_ | refine And.intro ?_ ?_))); done)); (focus (refine ⟨hlt, hrg.out, hmN.out, ?_, ?_, ?_⟩; (focus (show List.length _ ≤ 2 * (k + 1); (try simp only [List.length_append, List.length_cons, List.length_nil]); omega)); (focus (intro _ _; exact congrArg Prod.fst (getD_last _ _ _))); (focus (intro L z; cases z)))); (focus (show R.length - (k + 1) < R.length - k; omega))))
        · have hcf := hf
          have hml := hL0.out m rfl
          by_cases hpre : (List.drop a0.toNat (List.take (R.getD ((k : Int)).toNat tRg.dflt).1.toNat b)).length = 0
          · skip
            by_cases hT : (inR q (R.getD ((k : Int)).toNat tRg.dflt).1 (R.getD ((k : Int)).toNat tRg.dflt).2.1).length = 0
            · by_cases hL : (raw b (R.getD ((k : Int)).toNat tRg.dflt).2.1 (R.getD ((k : Int)).toNat tRg.dflt).1 (inR p (R.getD ((k : Int)).toNat tRg.dflt).1 (R.getD ((k : Int)).toNat tRg.dflt).2.1)).length = 0
              · skip
                have e1 : plF (D, some m) (List.drop a0.toNat (List.take (R.getD ((k : Int)).toNat tRg.dflt).1.toNat b)) = (D, some m) := if_pos hpre
                have e2 : mgS b p q (R.getD ((k : Int)).toNat tRg.dflt).1 (R.getD ((k : Int)).toNat tRg.dflt).2.1 (D, some m) = (D, some m) := (if_pos (.inl hT)).trans (if_pos hL)
                rw [e1, e2] at hmN
                replace hmN := Lib.hid hmN
                clear e1 e2
                dsimp only [mgH]
                (repeat' (first | (with_reducible refine Step.mk True.intro ?_) | (with_reducible refine Step.mk ?_ ?_; focus (((try simp only [true_and, and_true, and_self, kmin, kmax, decide_eq_true_eq, decide_eq_false_iff_not, castD_self, castL_self, List.length_cons, List.length_nil, List.length_append, Int.natCast_add] at *) <;> omega))) | (with_reducible refine Step.mk ?_ ?_) | (with_reducible refine Way.t1 ?_) | (with_reducible refine Way.f1 ?_) | ((with_reducible refine Way.dec (fun zz => ?_) (fun zz => ?_)) <;> (try simp only [castD_self, castL_self] at zz) <;> try (exfalso; first | omega | contradiction)) | (with_reducible refine Way.nt ?_) | ((with_reducible refine Way.mk (fun _ => ?_) (fun _ => ?_)) <;> try (exfalso; rename_i hw; first | exact Bool.noConfusion ((Go.RowKit.Hid.out hcf).symm.trans hw) | exact Bool.noConfusion (hw.symm.trans (Go.RowKit.Hid.out hcf)))) | (with_reducible refine Drawn.mk (by kernel_rfl) ?_) | (refine Run.mk ?_)))
                all_goals (
                  refine Cend.go ?_
                  (repeat' (first | (with_reducible refine Cend.go ?_) | (with_reducible refine Step.mk True.intro ?_) | (with_reducible refine Step.mk ?_ ?_; focus (((try simp only [true_and, and_true, and_self, kmin, kmax, decide_eq_true_eq, decide_eq_false_iff_not, castD_self, castL_self, List.length_cons, List.length_nil, List.length_append, Int.natCast_add] at *) <;> omega))) | (with_reducible refine Step.mk ?_ ?_) | (with_reducible refine Way.t1 ?_) | (with_reducible refine Way.f1 ?_) | ((with_reducible refine Way.dec (fun zz => ?_) (fun zz => ?_)) <;> (try simp only [castD_self, castL_self] at zz) <;> try (exfalso; first | omega | contradiction)) | (with_reducible refine Way.nt ?_) | ((with_reducible refine Way.mk (fun _ => ?_) (fun _ => ?_)) <;> try (exfalso; rename_i hw; first | exact Bool.noConfusion ((Go.RowKit.Hid.out hcf).symm.trans hw) | exact Bool.noConfusion (hw.symm.trans (Go.RowKit.Hid.out hcf)))) | (with_reducible refine Drawn.mk (by kernel_rfl) ?_) | (refine Run.mk ?_)))
                  all_goals first
                    | exact ⟨hpo.out, hpl⟩
                    | exact ⟨hqo.out, hql⟩
                    | exact ⟨hra.out, hbl, hil⟩
                    | exact ⟨hrb.out, hbl, hjl⟩
                    | exact hcl
                    | (refine Back.by (k + 1, (R.getD ((k : Int)).toNat tRg.dflt).2.1, D, some m) ?_ ?_ ?_; (focus (dsimp only [mgH]; (focus (refine Wk.keep ?_ ?_ <;> repeat' (first | exact True.intro | refine And.intro rfl ?_ | refine And.intro (congrArg (fun z : Int => AV.v false [Lf.d (.int .i64) z]) (by first | omega | (simp only [Int.natCast_add, List.length_cons, List.length_append, List.length_nil]; omega))) ?_ | refine And.intro ?_ ?_))); done)); (focus (refine ⟨hlt, hrg.out, hmN.out, ?_, ?_, ?_⟩; (focus (show List.length _ ≤ 2 * (k + 1); (try simp only [List.length_append, List.length_cons, List.length_nil]); omega)); (focus (intro z; cases z)); (focus (intro L z; cases z; (try simp only [List.length_append]); omega)))); (focus (show R.length - (k + 1) < R.length - k; omega))))
              · skip
                have e1 : plF (D, some m) (List.drop a0.toNat (List.take (R.getD ((k : Int)).toNat tRg.dflt).1.toNat b)) = (D, some m) := if_pos hpre
                have e2 : mgS b p q (R.getD ((k : Int)).toNat tRg.dflt).1 (R.getD ((k : Int)).toNat tRg.dflt).2.1 (D, some m) = (D, some (m ++ (raw b (R.getD ((k : Int)).toNat tRg.dflt).2.1 (R.getD ((k : Int)).toNat tRg.dflt).1 (inR p (R.getD ((k : Int)).toNat tRg.dflt).1 (R.getD ((k : Int)).toNat tRg.dflt).2.1)))) := (if_pos (.inl hT)).trans (if_neg hL)
                rw [e1, e2] at hmN
                replace hmN := Lib.hid hmN
                clear e1 e2
                dsimp only [mgH]
                (repeat' (first | (with_reducible refine Step.mk True.intro ?_) | (with_reducible refine Step.mk ?_ ?_; focus (((try simp only [true_and, and_true, and_self, kmin, kmax, decide_eq_true_eq, decide_eq_false_iff_not, castD_self, castL_self, List.length_cons, List.length_nil, List.length_append, Int.natCast_add] at *) <;> omega))) | (with_reducible refine Step.mk ?_ ?_) | (with_reducible refine Way.t1 ?_) | (with_reducible refine Way.f1 ?_) | ((with_reducible refine Way.dec (fun zz => ?_) (fun zz => ?_)) <;> (try simp only [castD_self, castL_self] at zz) <;> try (exfalso; first | omega | contradiction)) | (with_reducible refine Way.nt ?_) | ((with_reducible refine Way.mk (fun _ => ?_) (fun _ => ?_)) <;> try (exfalso; rename_i hw; first | exact Bool.noConfusion ((Go.RowKit.Hid.out hcf).symm.trans hw) | exact Bool.noConfusion (hw.symm.trans (Go.RowKit.Hid.out hcf)))) | (with_reducible refine Drawn.mk (by kernel_rfl) ?_) | (refine Run.mk ?_)))
                all_goals (
                  refine Cend.go ?_
                  (repeat' (first | (with_reducible refine Cend.go ?_) | (with_reducible refine Step.mk True.intro ?_) | (with_reducible refine Step.mk ?_ ?_; focus (((try simp only [true_and, and_true, and_self, kmin, kmax, decide_eq_true_eq, decide_eq_false_iff_not, castD_self, castL_self, List.length_cons, List.length_nil, List.length_append, Int.natCast_add] at *) <;> omega))) | (with_reducible refine Step.mk ?_ ?_) | (with_reducible refine Way.t1 ?_) | (with_reducible refine Way.f1 ?_) | ((with_reducible refine Way.dec (fun zz => ?_) (fun zz => ?_)) <;> (try simp only [castD_self, castL_self] at zz) <;> try (exfalso; first | omega | contradiction)) | (with_reducible refine Way.nt ?_) | ((with_reducible refine Way.mk (fun _ => ?_) (fun _ => ?_)) <;> try (exfalso; rename_i hw; first | exact Bool.noConfusion ((Go.RowKit.Hid.out hcf).symm.trans hw) | exact Bool.noConfusion (hw.symm.trans (Go.RowKit.Hid.out hcf)))) | (with_reducible refine Drawn.mk (by kernel_rfl) ?_) | (refine Run.mk ?_)))
                  all_goals first
                    | exact ⟨hpo.out, hpl⟩
                    | exact ⟨hqo.out, hql⟩
                    | exact ⟨hra.out, hbl, hil⟩
                    | exact ⟨hrb.out, hbl, hjl⟩
                    | exact hcl
                    | (refine Back.by (k + 1, (R.getD ((k : Int)).toNat tRg.dflt).2.1, D, some (m ++ (raw b (R.getD ((k : Int)).toNat tRg.dflt).2.1 (R.getD ((k : Int)).toNat tRg.dflt).1 (inR p (R.getD ((k : Int)).toNat tRg.dflt).1 (R.getD ((k : Int)).toNat tRg.dflt).2.1)))) ?_ ?_ ?_; (focus (dsimp only [mgH]; (focus (refine Wk.ren [(92, 109054)] rfl ?_ ?_ <;> repeat' (first | exact True.intro | refine And.intro rfl ?_ | refine And.intro (congrArg (fun z : Int => AV.v false [Lf.d (.int .i64) z]) (by first | omega | (simp only [Int.natCast_add, List.length_cons, List.length_append, List.length_nil]; omega))) ?_ | refine And.intro ?_ ?_))); done)); (focus (refine ⟨hlt, hrg.out, hmN.out, ?_, ?_, ?_⟩; (focus (show List.length _ ≤ 2 * (k + 1); (try simp only [List.length_append, List.length_cons, List.length_nil]); omega)); (focus (intro z; cases z)); (focus (intro L z; cases z; (try simp only [List.length_append]); omega)))); (focus (show R.length - (k + 1) < R.length - k; omega))))
            · by_cases hE : (raw b (R.getD ((k : Int)).toNat tRg.dflt).2.1 (R.getD ((k : Int)).toNat tRg.dflt).1 (inR p (R.getD ((k : Int)).toNat tRg.dflt).1 (R.getD ((k : Int)).toNat tRg.dflt).2.1)) = (raw b (R.getD ((k : Int)).toNat tRg.dflt).2.1 (R.getD ((k : Int)).toNat tRg.dflt).1 (inR q (R.getD ((k : Int)).toNat tRg.dflt).1 (R.getD ((k : Int)).toNat tRg.dflt).2.1))
              · by_cases hL : (raw b (R.getD ((k : Int)).toNat tRg.dflt).2.1 (R.getD ((k : Int)).toNat tRg.dflt).1 (inR p (R.getD ((k : Int)).toNat tRg.dflt).1 (R.getD ((k : Int)).toNat tRg.dflt).2.1)).length = 0
                · skip
                  have e1 : plF (D, some m) (List.drop a0.toNat (List.take (R.getD ((k : Int)).toNat tRg.dflt).1.toNat b)) = (D, some m) := if_pos hpre
                  have e2 : mgS b p q (R.getD ((k : Int)).toNat tRg.dflt).1 (R.getD ((k : Int)).toNat tRg.dflt).2.1 (D, some m) = (D, some m) := (if_pos (.inr hE)).trans (if_pos hL)
                  rw [e1, e2] at hmN
                  replace hmN := Lib.hid hmN
                  clear e1 e2
                  dsimp only [mgH]
                  (repeat' (first | (with_reducible refine Step.mk True.intro ?_) | (with_reducible refine Step.mk ?_ ?_; focus (((try simp only [true_and, and_true, and_self, kmin, kmax, decide_eq_true_eq, decide_eq_false_iff_not, castD_self, castL_self, List.length_cons, List.length_nil, List.length_append, Int.natCast_add] at *) <;> omega))) | (with_reducible refine Step.mk ?_ ?_) | (with_reducible refine Way.t1 ?_) | (with_reducible refine Way.f1 ?_) | ((with_reducible refine Way.dec (fun zz => ?_) (fun zz => ?_)) <;> (try simp only [castD_self, castL_self] at zz) <;> try (exfalso; first | omega | contradiction)) | (with_reducible refine Way.nt ?_) | ((with_reducible refine Way.mk (fun _ => ?_) (fun _ => ?_)) <;> try (exfalso; rename_i hw; first | exact Bool.noConfusion ((Go.RowKit.Hid.out hcf).symm.trans hw) | exact Bool.noConfusion (hw.symm.trans (Go.RowKit.Hid.out hcf)))) | (with_reducible refine Drawn.mk (by kernel_rfl) ?_) | (refine Run.mk ?_)))
                  all_goals (
                    refine Cend.go ?_
                    (repeat' (first | (with_reducible refine Cend.go ?_) | (with_reducible refine Step.mk True.intro ?_) | (with_reducible refine Step.mk ?_ ?_; focus (((try simp only [true_and, and_true, and_self, kmin, kmax, decide_eq_true_eq, decide_eq_false_iff_not, castD_self, castL_self, List.length_cons, List.length_nil, List.length_append, Int.natCast_add] at *) <;> omega))) | (with_reducible refine Step.mk ?_ ?_) | (with_reducible refine Way.t1 ?_) | (with_reducible refine Way.f1 ?_) | ((with_reducible refine Way.dec (fun zz => ?_) (fun zz => ?_)) <;> (try simp only [castD_self, castL_self] at zz) <;> try (exfalso; first | omega | contradiction)) | (with_reducible refine Way.nt ?_) | ((with_reducible refine Way.mk (fun _ => ?_) (fun _ => ?_)) <;> try (exfalso; rename_i hw; first | exact Bool.noConfusion ((Go.RowKit.Hid.out hcf).symm.trans hw) | exact Bool.noConfusion (hw.symm.trans (Go.RowKit.Hid.out hcf)))) | (with_reducible refine Drawn.mk (by kernel_rfl) ?_) | (refine Run.mk ?_)))
                    all_goals first
                      | exact ⟨hpo.out, hpl⟩
                      | exact ⟨hqo.out, hql⟩
                      | exact ⟨hra.out, hbl, hil⟩
                      | exact ⟨hrb.out, hbl, hjl⟩
                      | exact hcl
                      | exact absurd hE (by assumption)
                      | (refine Back.by (k + 1, (R.getD ((k : Int)).toNat tRg.dflt).2.1, D, some m) ?_ ?_ ?_; (focus (dsimp only [mgH]; (focus (refine Wk.keep ?_ ?_ <;> repeat' (first | exact True.intro | refine And.intro rfl ?_ | refine And.intro (congrArg (fun z : Int => AV.v false [Lf.d (.int .i64) z]) (by first | omega | (simp only [Int.natCast_add, List.length_cons, List.length_append, List.length_nil]; omega))) ?_ | refine And.intro ?_ ?_))); done)); (focus (refine ⟨hlt, hrg.out, hmN.out, ?_, ?_, ?_⟩; (focus (show List.length _ ≤ 2 * (k + 1); (try simp only [List.length_append, List.length_cons, List.length_nil]); omega)); (focus (intro z; cases z)); (focus (intro L z; cases z; (try simp only [List.length_append]); omega)))); (focus (show R.length - (k + 1) < R.length - k; omega))))
                · skip
                  have e1 : plF (D, some m) (List.drop a0.toNat (List.take (R.getD ((k : Int)).toNat tRg.dflt).1.toNat b)) = (D, some m) := if_pos hpre
                  have e2 : mgS b p q (R.getD ((k : Int)).toNat tRg.dflt).1 (R.getD ((k : Int)).toNat tRg.dflt).2.1 (D, some m) = (D, some (m ++ (raw b (R.getD ((k : Int)).toNat tRg.dflt).2.1 (R.getD ((k : Int)).toNat tRg.dflt).1 (inR p (R.getD ((k : Int)).toNat tRg.dflt).1 (R.getD ((k : Int)).toNat tRg.dflt).2.1)))) := (if_pos (.inr hE)).trans (if_neg hL)
                  rw [e1, e2] at hmN
                  replace hmN := Lib.hid hmN
                  clear e1 e2
                  dsimp only [mgH]
                  (repeat' (first | (with_reducible refine Step.mk True.intro ?_) | (with_reducible refine Step.mk ?_ ?_; focus (((try simp only [true_and, and_true, and_self, kmin, kmax, decide_eq_true_eq, decide_eq_false_iff_not, castD_self, castL_self, List.length_cons, List.length_nil, List.length_append, Int.natCast_add] at *) <;> omega))) | (with_reducible refine Step.mk ?_ ?_) | (with_reducible refine Way.t1 ?_) | (with_reducible refine Way.f1 ?_) | ((with_reducible refine Way.dec (fun zz => ?_) (fun zz => ?_)) <;> (try simp only [castD_self, castL_self] at zz) <;> try (exfalso; first | omega | contradiction)) | (with_reducible refine Way.nt ?_) | ((with_reducible refine Way.mk (fun _ => ?_) (fun _ => ?_)) <;> try (exfalso; rename_i hw; first | exact Bool.noConfusion ((Go.RowKit.Hid.out hcf).symm.trans hw) | exact Bool.noConfusion (hw.symm.trans (Go.RowKit.Hid.out hcf)))) | (with_reducible refine Drawn.mk (by kernel_rfl) ?_) | (refine Run.mk ?_)))
                  all_goals (
                    refine Cend.go ?_
                    (repeat' (first | (with_reducible refine Cend.go ?_) | (with_reducible refine Step.mk True.intro ?_) | (with_reducible refine Step.mk ?_ ?_; focus (((try simp only [true_and, and_true, and_self, kmin, kmax, decide_eq_true_eq, decide_eq_false_iff_not, castD_self, castL_self, List.length_cons, List.length_nil, List.length_append, Int.natCast_add] at *) <;> omega))) | (with_reducible refine Step.mk ?_ ?_) | (with_reducible refine Way.t1 ?_) | (with_reducible refine Way.f1 ?_) | ((with_reducible refine Way.dec (fun zz => ?_) (fun zz => ?_)) <;> (try simp only [castD_self, castL_self] at zz) <;> try (exfalso; first | omega | contradiction)) | (with_reducible refine Way.nt ?_) | ((with_reducible refine Way.mk (fun _ => ?_) (fun _ => ?_)) <;> try (exfalso; rename_i hw; first | exact Bool.noConfusion ((Go.RowKit.Hid.out hcf).symm.trans hw) | exact Bool.noConfusion (hw.symm.trans (Go.RowKit.Hid.out hcf)))) | (with_reducible refine Drawn.mk (by kernel_rfl) ?_) | (refine Run.mk ?_)))
                    all_goals first
                      | exact ⟨hpo.out, hpl⟩
                      | exact ⟨hqo.out, hql⟩
                      | exact ⟨hra.out, hbl, hil⟩
                      | exact ⟨hrb.out, hbl, hjl⟩
                      | exact hcl
                      | exact absurd hE (by assumption)
                      | (refine Back.by (k + 1, (R.getD ((k : Int)).toNat tRg.dflt).2.1, D, some (m ++ (raw b (R.getD ((k : Int)).toNat tRg.dflt).2.1 (R.getD ((k : Int)).toNat tRg.dflt).1 (inR p (R.getD ((k : Int)).toNat tRg.dflt).1 (R.getD ((k : Int)).toNat tRg.dflt).2.1)))) ?_ ?_ ?_; (focus (dsimp only [mgH]; (focus (refine Wk.ren [(92, 109054)] rfl ?_ ?_ <;> repeat' (first | exact True.intro | refine And.intro rfl ?_ | refine And.intro (congrArg (fun z : Int => AV.v false [Lf.d (.int .i64) z]) (by first | omega | (simp only [Int.natCast_add, List.length_cons, List.length_append, List.length_nil]; omega))) ?_ | refine And.intro ?_ ?_))); done)); (focus (refine ⟨hlt, hrg.out, hmN.out, ?_, ?_, ?_⟩; (focus (show List.length _ ≤ 2 * (k + 1); (try simp only [List.length_append, List.length_cons, List.length_nil]); omega)); (focus (intro z; cases z)); (focus (intro L z; cases z; (try simp only [List.length_append]); omega)))); (focus (show R.length - (k + 1) < R.length - k; omega))))
              · by_cases hM : (inR p (R.getD ((k : Int)).toNat tRg.dflt).1 (R.getD ((k : Int)).toNat tRg.dflt).2.1).length = 0
                · by_cases hL : (raw b (R.getD ((k : Int)).toNat tRg.dflt).2.1 (R.getD ((k : Int)).toNat tRg.dflt).1 (inR q (R.getD ((k : Int)).toNat tRg.dflt).1 (R.getD ((k : Int)).toNat tRg.dflt).2.1)).length = 0
                  · skip
                    have e1 : plF (D, some m) (List.drop a0.toNat (List.take (R.getD ((k : Int)).toNat tRg.dflt).1.toNat b)) = (D, some m) := if_pos hpre
                    have e2 : mgS b p q (R.getD ((k : Int)).toNat tRg.dflt).1 (R.getD ((k : Int)).toNat tRg.dflt).2.1 (D, some m) = (D, some m) := ((if_neg (fun z => z.elim hT hE)).trans (if_pos hM)).trans (if_pos hL)
                    rw [e1, e2] at hmN
                    replace hmN := Lib.hid hmN
                    clear e1 e2
                    dsimp only [mgH]
                    (repeat' (first | (with_reducible refine Step.mk True.intro ?_) | (with_reducible refine Step.mk ?_ ?_; focus (((try simp only [true_and, and_true, and_self, kmin, kmax, decide_eq_true_eq, decide_eq_false_iff_not, castD_self, castL_self, List.length_cons, List.length_nil, List.length_append, Int.natCast_add] at *) <;> omega))) | (with_reducible refine Step.mk ?_ ?_) | (with_reducible refine Way.t1 ?_) | (with_reducible refine Way.f1 ?_) | ((with_reducible refine Way.dec (fun zz => ?_) (fun zz => ?_)) <;> (try simp only [castD_self, castL_self] at zz) <;> try (exfalso; first | omega | contradiction)) | (with_reducible refine Way.nt ?_) | ((with_reducible refine Way.mk (fun _ => ?_) (fun _ => ?_)) <;> try (exfalso; rename_i hw; first | exact Bool.noConfusion ((Go.RowKit.Hid.out hcf).symm.trans hw) | exact Bool.noConfusion (hw.symm.trans (Go.RowKit.Hid.out hcf)))) | (with_reducible refine Drawn.mk (by kernel_rfl) ?_) | (refine Run.mk ?_)))
                    all_goals (
                      refine Cend.go ?_
                      (repeat' (first | (with_reducible refine Cend.go ?_) | (with_reducible refine Step.mk True.intro ?_) | (with_reducible refine Step.mk ?_ ?_; focus (((try simp only [true_and, and_true, and_self, kmin, kmax, decide_eq_true_eq, decide_eq_false_iff_not, castD_self, castL_self, List.length_cons, List.length_nil, List.length_append, Int.natCast_add] at *) <;> omega))) | (with_reducible refine Step.mk ?_ ?_) | (with_reducible refine Way.t1 ?_) | (with_reducible refine Way.f1 ?_) | ((with_reducible refine Way.dec (fun zz => ?_) (fun zz => ?_)) <;> (try simp only [castD_self, castL_self] at zz) <;> try (exfalso; first | omega | contradiction)) | (with_reducible refine Way.nt ?_) | ((with_reducible refine Way.mk (fun _ => ?_) (fun _ => ?_)) <;> try (exfalso; rename_i hw; first | exact Bool.noConfusion ((Go.RowKit.Hid.out hcf).symm.trans hw) | exact Bool.noConfusion (hw.symm.trans (Go.RowKit.Hid.out hcf)))) | (with_reducible refine Drawn.mk (by kernel_rfl) ?_) | (refine Run.mk ?_)))
                      all_goals first
                        | exact ⟨hpo.out, hpl⟩
                        | exact ⟨hqo.out, hql⟩
                        | exact ⟨hra.out, hbl, hil⟩
                        | exact ⟨hrb.out, hbl, hjl⟩
                        | exact hcl
                        | exact absurd (by assumption) hE
                        | (refine Back.by (k + 1, (R.getD ((k : Int)).toNat tRg.dflt).2.1, D, some m) ?_ ?_ ?_; (focus (dsimp only [mgH]; (focus (refine Wk.keep ?_ ?_ <;> repeat' (first | exact True.intro | refine And.intro rfl ?_ | refine And.intro (congrArg (fun z : Int => AV.v false [Lf.d (.int .i64) z]) (by first | omega | (simp only [Int.natCast_add, List.length_cons, List.length_append, List.length_nil]; omega))) ?_ | refine And.intro ?_ ?_))); done)); (focus (refine ⟨hlt, hrg.out, hmN.out, ?_, ?_, ?_⟩; (focus (show List.length _ ≤ 2 * (k + 1); (try simp only [List.length_append, List.length_cons, List.length_nil]); omega)); (focus (intro z; cases z)); (focus (intro L z; cases z; (try simp only [List.length_append]); omega)))); (focus (show R.length - (k + 1) < R.length - k; omega))))
                  · skip
                    have e1 : plF (D, some m) (List.drop a0.toNat (List.take (R.getD ((k : Int)).toNat tRg.dflt).1.toNat b)) = (D, some m) := if_pos hpre
                    have e2 : mgS b p q (R.getD ((k : Int)).toNat tRg.dflt).1 (R.getD ((k : Int)).toNat tRg.dflt).2.1 (D, some m) = (D, some (m ++ (raw b (R.getD ((k : Int)).toNat tRg.dflt).2.1 (R.getD ((k : Int)).toNat tRg.dflt).1 (inR q (R.getD ((k : Int)).toNat tRg.dflt).1 (R.getD ((k : Int)).toNat tRg.dflt).2.1)))) := ((if_neg (fun z => z.elim hT hE)).trans (if_pos hM)).trans (if_neg hL)
                    rw [e1, e2] at hmN
                    replace hmN := Lib.hid hmN
                    clear e1 e2
                    dsimp only [mgH]
                    (repeat' (first | (with_reducible refine Step.mk True.intro ?_) | (with_reducible refine Step.mk ?_ ?_; focus (((try simp only [true_and, and_true, and_self, kmin, kmax, decide_eq_true_eq, decide_eq_false_iff_not, castD_self, castL_self, List.length_cons, List.length_nil, List.length_append, Int.natCast_add] at *) <;> omega))) | (with_reducible refine Step.mk ?_ ?_) | (with_reducible refine Way.t1 ?_) | (with_reducible refine Way.f1 ?_) | ((with_reducible refine Way.dec (fun zz => ?_) (fun zz => ?_)) <;> (try simp only [castD_self, castL_self] at zz) <;> try (exfalso; first | omega | contradiction)) | (with_reducible refine Way.nt ?_) | ((with_reducible refine Way.mk (fun _ => ?_) (fun _ => ?_)) <;> try (exfalso; rename_i hw; first | exact Bool.noConfusion ((Go.RowKit.Hid.out hcf).symm.trans hw) | exact Bool.noConfusion (hw.symm.trans (Go.RowKit.Hid.out hcf)))) | (with_reducible refine Drawn.mk (by kernel_rfl) ?_) | (refine Run.mk ?_)))
                    all_goals (
                      refine Cend.go ?_
                      (repeat' (first | (with_reducible refine Cend.go ?_) | (with_reducible refine Step.mk True.intro ?_) | (with_reducible refine Step.mk ?_ ?_; focus (((try simp only [true_and, and_true, and_self, kmin, kmax, decide_eq_true_eq, decide_eq_false_iff_not, castD_self, castL_self, List.length_cons, List.length_nil, List.length_append, Int.natCast_add] at *) <;> omega))) | (with_reducible refine Step.mk ?_ ?_) | (with_reducible refine Way.t1 ?_) | (with_reducible refine Way.f1 ?_) | ((with_reducible refine Way.dec (fun zz => ?_) (fun zz => ?_)) <;> (try simp only [castD_self, castL_self] at zz) <;> try (exfalso; first | omega | contradiction)) | (with_reducible refine Way.nt ?_) | ((with_reducible refine Way.mk (fun _ => ?_) (fun _ => ?_)) <;> try (exfalso; rename_i hw; first | exact Bool.noConfusion ((Go.RowKit.Hid.out hcf).symm.trans hw) | exact Bool.noConfusion (hw.symm.trans (Go.RowKit.Hid.out hcf)))) | (with_reducible refine Drawn.mk (by kernel_rfl) ?_) | (refine Run.mk ?_)))
                      all_goals first
                        | exact ⟨hpo.out, hpl⟩
                        | exact ⟨hqo.out, hql⟩
                        | exact ⟨hra.out, hbl, hil⟩
                        | exact ⟨hrb.out, hbl, hjl⟩
                        | exact hcl
                        | exact absurd (by assumption) hE
                        | (refine Back.by (k + 1, (R.getD ((k : Int)).toNat tRg.dflt).2.1, D, some (m ++ (raw b (R.getD ((k : Int)).toNat tRg.dflt).2.1 (R.getD ((k : Int)).toNat tRg.dflt).1 (inR q (R.getD ((k : Int)).toNat tRg.dflt).1 (R.getD ((k : Int)).toNat tRg.dflt).2.1)))) ?_ ?_ ?_; (focus (dsimp only [mgH]; (focus (refine Wk.ren [(92, 115054)] rfl ?_ ?_ <;> repeat' (first | exact True.intro | refine And.intro rfl ?_ | refine And.intro (congrArg (fun z : Int => AV.v false [Lf.d (.int .i64) z]) (by first | omega | (simp only [Int.natCast_add, List.length_cons, List.length_append, List.length_nil]; omega))) ?_ | refine And.intro ?_ ?_))); done)); (focus (refine ⟨hlt, hrg.out, hmN.out, ?_, ?_, ?_⟩; (focus (show List.length _ ≤ 2 * (k + 1); (try simp only [List.length_append, List.length_cons, List.length_nil]); omega)); (focus (intro z; cases z)); (focus (intro L z; cases z; (try simp only [List.length_append]); omega)))); (focus (show R.length - (k + 1) < R.length - k; omega))))
                · skip
                  have e1 : plF (D, some m) (List.drop a0.toNat (List.take (R.getD ((k : Int)).toNat tRg.dflt).1.toNat b)) = (D, some m) := if_pos hpre
                  have e2 : mgS b p q (R.getD ((k : Int)).toNat tRg.dflt).1 (R.getD ((k : Int)).toNat tRg.dflt).2.1 (D, some m) = (((D ++ [plCh m]) ++ [(true, [], (List.drop (R.getD ((k : Int)).toNat tRg.dflt).1.toNat (List.take (R.getD ((k : Int)).toNat tRg.dflt).2.1.toNat b)), (raw b (R.getD ((k : Int)).toNat tRg.dflt).2.1 (R.getD ((k : Int)).toNat tRg.dflt).1 (inR p (R.getD ((k : Int)).toNat tRg.dflt).1 (R.getD ((k : Int)).toNat tRg.dflt).2.1)), (raw b (R.getD ((k : Int)).toNat tRg.dflt).2.1 (R.getD ((k : Int)).toNat tRg.dflt).1 (inR q (R.getD ((k : Int)).toNat tRg.dflt).1 (R.getD ((k : Int)).toNat tRg.dflt).2.1)))]), none) := (if_neg (fun z => z.elim hT hE)).trans (if_neg hM)
                  rw [e1, e2] at hmN
                  replace hmN := Lib.hid hmN
                  clear e1 e2
                  dsimp only [mgH]
                  (repeat' (first | (with_reducible refine Step.mk True.intro ?_) | (with_reducible refine Step.mk ?_ ?_; focus (((try simp only [true_and, and_true, and_self, kmin, kmax, decide_eq_true_eq, decide_eq_false_iff_not, castD_self, castL_self, List.length_cons, List.length_nil, List.length_append, Int.natCast_add] at *) <;> omega))) | (with_reducible refine Step.mk ?_ ?_) | (with_reducible refine Way.t1 ?_) | (with_reducible refine Way.f1 ?_) | ((with_reducible refine Way.dec (fun zz => ?_) (fun zz => ?_)) <;> (try simp only [castD_self, castL_self] at zz) <;> try (exfalso; first | omega | contradiction)) | (with_reducible refine Way.nt ?_) | ((with_reducible refine Way.mk (fun _ => ?_) (fun _ => ?_)) <;> try (exfalso; rename_i hw; first | exact Bool.noConfusion ((Go.RowKit.Hid.out hcf).symm.trans hw) | exact Bool.noConfusion (hw.symm.trans (Go.RowKit.Hid.out hcf)))) | (with_reducible refine Drawn.mk (by kernel_rfl) ?_) | (refine Run.mk ?_)))
                  all_goals (
                    refine Cend.wk (fun n => Wk.pack 91 (E := 40) (t := tCh) (l1 := D) (l2 := []) (x := plCh m) (hl' := [.put 14 (.box 53 [.o 91]), .put 7 (.box 25 [.d (.int .i64) 0, .d (.int .i64) 0]), .put 10 (.box 44 [.d (.slice tHk) p]), .put 12 (.box 44 [.d (.slice tHk) q]), .put 17 (.box 57 [.d (.int .i64) (R.getD ((k : Int)).toNat tRg.dflt).1, .d (.int .i64) (R.getD ((k : Int)).toNat tRg.dflt).2.1, .d (.int .i64) (R.getD ((k : Int)).toNat tRg.dflt).2.2])]) rfl rfl (by repeat' (first | exact True.intro | refine And.intro rfl ?_)) rfl rfl) ?_
                    (repeat' (first | (with_reducible refine Cend.go ?_) | (with_reducible refine Step.mk True.intro ?_) | (with_reducible refine Step.mk ?_ ?_; focus (((try simp only [true_and, and_true, and_self, kmin, kmax, decide_eq_true_eq, decide_eq_false_iff_not, castD_self, castL_self, List.length_cons, List.length_nil, List.length_append, Int.natCast_add] at *) <;> omega))) | (with_reducible refine Step.mk ?_ ?_) | (with_reducible refine Way.t1 ?_) | (with_reducible refine Way.f1 ?_) | ((with_reducible refine Way.dec (fun zz => ?_) (fun zz => ?_)) <;> (try simp only [castD_self, castL_self] at zz) <;> try (exfalso; first | omega | contradiction)) | (with_reducible refine Way.nt ?_) | ((with_reducible refine Way.mk (fun _ => ?_) (fun _ => ?_)) <;> try (exfalso; rename_i hw; first | exact Bool.noConfusion ((Go.RowKit.Hid.out hcf).symm.trans hw) | exact Bool.noConfusion (hw.symm.trans (Go.RowKit.Hid.out hcf)))) | (with_reducible refine Drawn.mk (by kernel_rfl) ?_) | (refine Run.mk ?_)))
                    all_goals first
                      | exact ⟨hpo.out, hpl⟩
                      | exact ⟨hqo.out, hql⟩
                      | exact ⟨hra.out, hbl, hil⟩
                      | exact ⟨hrb.out, hbl, hjl⟩
                      | exact hcl
                      | exact absurd (by assumption) hE
                      | (refine Back.by (k + 1, (R.getD ((k : Int)).toNat tRg.dflt).2.1, ((D ++ [plCh m]) ++ [(true, [], (List.drop (R.getD ((k : Int)).toNat tRg.dflt).1.toNat (List.take (R.getD ((k : Int)).toNat tRg.dflt).2.1.toNat b)), (raw b (R.getD ((k : Int)).toNat tRg.dflt).2.1 (R.getD ((k : Int)).toNat tRg.dflt).1 (inR p (R.getD ((k : Int)).toNat tRg.dflt).1 (R.getD ((k : Int)).toNat tRg.dflt).2.1)), (raw b (R.getD ((k : Int)).toNat tRg.dflt).2.1 (R.getD ((k : Int)).toNat tRg.dflt).1 (inR q (R.getD ((k : Int)).toNat tRg.dflt).1 (R.getD ((k : Int)).toNat tRg.dflt).2.1)))]), none) ?_ ?_ ?_; (focus (dsimp only [mgH]; refine Wk.trans (Wk.pack 96 (E := 40) (t := tCh) (l1 := (D ++ [plCh m])) (l2 := []) (x := (true, [], (List.drop (R.getD ((k : Int)).toNat tRg.dflt).1.toNat (List.take (R.getD ((k : Int)).toNat tRg.dflt).2.1.toNat b)), (raw b (R.getD ((k : Int)).toNat tRg.dflt).2.1 (R.getD ((k : Int)).toNat tRg.dflt).1 (inR p (R.getD ((k : Int)).toNat tRg.dflt).1 (R.getD ((k : Int)).toNat tRg.dflt).2.1)), (raw b (R.getD ((k : Int)).toNat tRg.dflt).2.1 (R.getD ((k : Int)).toNat tRg.dflt).1 (inR q (R.getD ((k : Int)).toNat tRg.dflt).1 (R.getD ((k : Int)).toNat tRg.dflt).2.1)))) (hl' := [.put 14 (.box 53 [.o 96]), .put 7 (.box 25 [.d (.int .i64) 0, .d (.int .i64) 0]), .put 10 (.box 44 [.d (.slice tHk) p]), .put 12 (.box 44 [.d (.slice tHk) q])]) rfl rfl (by repeat' (first | exact True.intro | refine And.intro rfl ?_)) rfl rfl) ?_; (focus (refine Wk.ren [(91, 96)] rfl ?_ ?_ <;> repeat' (first | exact True.intro | refine And.intro rfl ?_ | refine And.intro (congrArg (fun z : Int => AV.v false [Lf.d (.int .i64) z]) (by first | omega | (simp only [Int.natCast_add, List.length_cons, List.length_append, List.length_nil]; omega))) ?_ | refine And.intro ?_ ?_))); done)); (focus (refine ⟨hlt, hrg.out, hmN.out, ?_, ?_, ?_⟩; (focus (show List.length _ ≤ 2 * (k + 1); (try simp only [List.length_append, List.length_cons, List.length_nil]); omega)); (focus (intro _ _; exact congrArg Prod.fst (getD_last _ _ _))); (focus (intro L z; cases z)))); (focus (show R.length - (k + 1) < R.length - k; omega))))
          · skip
            by_cases hT : (inR q (R.getD ((k : Int)).toNat tRg.dflt).1 (R.getD ((k : Int)).toNat tRg.dflt).2.1).length = 0
            · by_cases hL : (raw b (R.getD ((k : Int)).toNat tRg.dflt).2.1 (R.getD ((k : Int)).toNat tRg.dflt).1 (inR p (R.getD ((k : Int)).toNat tRg.dflt).1 (R.getD ((k : Int)).toNat tRg.dflt).2.1)).length = 0
              · skip
                have e1 : plF (D, some m) (List.drop a0.toNat (List.take (R.getD ((k : Int)).toNat tRg.dflt).1.toNat b)) = (D, some (m ++ (List.drop a0.toNat (List.take (R.getD ((k : Int)).toNat tRg.dflt).1.toNat b)))) := if_neg hpre
                have e2 : mgS b p q (R.getD ((k : Int)).toNat tRg.dflt).1 (R.getD ((k : Int)).toNat tRg.dflt).2.1 (D, some (m ++ (List.drop a0.toNat (List.take (R.getD ((k : Int)).toNat tRg.dflt).1.toNat b)))) = (D, some (m ++ (List.drop a0.toNat (List.take (R.getD ((k : Int)).toNat tRg.dflt).1.toNat b)))) := (if_pos (.inl hT)).trans (if_pos hL)
                rw [e1, e2] at hmN
                replace hmN := Lib.hid hmN
                clear e1 e2
                dsimp only [mgH]
                (repeat' (first | (with_reducible refine Step.mk True.intro ?_) | (with_reducible refine Step.mk ?_ ?_; focus (((try simp only [true_and, and_true, and_self, kmin, kmax, decide_eq_true_eq, decide_eq_false_iff_not, castD_self, castL_self, List.length_cons, List.length_nil, List.length_append, Int.natCast_add] at *) <;> omega))) | (with_reducible refine Step.mk ?_ ?_) | (with_reducible refine Way.t1 ?_) | (with_reducible refine Way.f1 ?_) | ((with_reducible refine Way.dec (fun zz => ?_) (fun zz => ?_)) <;> (try simp only [castD_self, castL_self] at zz) <;> try (exfalso; first | omega | contradiction)) | (with_reducible refine Way.nt ?_) | ((with_reducible refine Way.mk (fun _ => ?_) (fun _ => ?_)) <;> try (exfalso; rename_i hw; first | exact Bool.noConfusion ((Go.RowKit.Hid.out hcf).symm.trans hw) | exact Bool.noConfusion (hw.symm.trans (Go.RowKit.Hid.out hcf)))) | (with_reducible refine Drawn.mk (by kernel_rfl) ?_) | (refine Run.mk ?_)))
                all_goals (
                  refine Cend.go ?_
                  (repeat' (first | (with_reducible refine Cend.go ?_) | (with_reducible refine Step.mk True.intro ?_) | (with_reducible refine Step.mk ?_ ?_; focus (((try simp only [true_and, and_true, and_self, kmin, kmax, decide_eq_true_eq, decide_eq_false_iff_not, castD_self, castL_self, List.length_cons, List.length_nil, List.length_append, Int.natCast_add] at *) <;> omega))) | (with_reducible refine Step.mk ?_ ?_) | (with_reducible refine Way.t1 ?_) | (with_reducible refine Way.f1 ?_) | ((with_reducible refine Way.dec (fun zz => ?_) (fun zz => ?_)) <;> (try simp only [castD_self, castL_self] at zz) <;> try (exfalso; first | omega | contradiction)) | (with_reducible refine Way.nt ?_) | ((with_reducible refine Way.mk (fun _ => ?_) (fun _ => ?_)) <;> try (exfalso; rename_i hw; first | exact Bool.noConfusion ((Go.RowKit.Hid.out hcf).symm.trans hw) | exact Bool.noConfusion (hw.symm.trans (Go.RowKit.Hid.out hcf)))) | (with_reducible refine Drawn.mk (by kernel_rfl) ?_) | (refine Run.mk ?_)))
                  all_goals first
                    | exact ⟨hpo.out, hpl⟩
                    | exact ⟨hqo.out, hql⟩
                    | exact ⟨hra.out, hbl, hil⟩
                    | exact ⟨hrb.out, hbl, hjl⟩
                    | exact hcl
                    | (refine Back.by (k + 1, (R.getD ((k : Int)).toNat tRg.dflt).2.1, D, some (m ++ (List.drop a0.toNat (List.take (R.getD ((k : Int)).toNat tRg.dflt).1.toNat b)))) ?_ ?_ ?_; (focus (dsimp only [mgH]; (focus (refine Wk.ren [(92, 61054)] rfl ?_ ?_ <;> repeat' (first | exact True.intro | refine And.intro rfl ?_ | refine And.intro (congrArg (fun z : Int => AV.v false [Lf.d (.int .i64) z]) (by first | omega | (simp only [Int.natCast_add, List.length_cons, List.length_append, List.length_nil]; omega))) ?_ | refine And.intro ?_ ?_))); done)); (focus (refine ⟨hlt, hrg.out, hmN.out, ?_, ?_, ?_⟩; (focus (show List.length _ ≤ 2 * (k + 1); (try simp only [List.length_append, List.length_cons, List.length_nil]); omega)); (focus (intro z; cases z)); (focus (intro L z; cases z; (try simp only [List.length_append]); omega)))); (focus (show R.length - (k + 1) < R.length - k; omega))))
              · skip
                have e1 : plF (D, some m) (List.drop a0.toNat (List.take (R.getD ((k : Int)).toNat tRg.dflt).1.toNat b)) = (D, some (m ++ (List.drop a0.toNat (List.take (R.getD ((k : Int)).toNat tRg.dflt).1.toNat b)))) := if_neg hpre
                have e2 : mgS b p q (R.getD ((k : Int)).toNat tRg.dflt).1 (R.getD ((k : Int)).toNat tRg.dflt).2.1 (D, some (m ++ (List.drop a0.toNat (List.take (R.getD ((k : Int)).toNat tRg.dflt).1.toNat b)))) = (D, some ((m ++ (List.drop a0.toNat (List.take (R.getD ((k : Int)).toNat tRg.dflt).1.toNat b))) ++ (raw b (R.getD ((k : Int)).toNat tRg.dflt).2.1 (R.getD ((k : Int)).toNat tRg.dflt).1 (inR p (R.getD ((k : Int)).toNat tRg.dflt).1 (R.getD ((k : Int)).toNat tRg.dflt).2.1)))) := (if_pos (.inl hT)).trans (if_neg hL)
                rw [e1, e2] at hmN
                replace hmN := Lib.hid hmN
                clear e1 e2
                dsimp only [mgH]
                (repeat' (first | (with_reducible refine Step.mk True.intro ?_) | (with_reducible refine Step.mk ?_ ?_; focus (((try simp only [true_and, and_true, and_self, kmin, kmax, decide_eq_true_eq, decide_eq_false_iff_not, castD_self, castL_self, List.length_cons, List.length_nil, List.length_append, Int.natCast_add] at *) <;> omega))) | (with_reducible refine Step.mk ?_ ?_) | (with_reducible refine Way.t1 ?_) | (with_reducible refine Way.f1 ?_) | ((with_reducible refine Way.dec (fun zz => ?_) (fun zz => ?_)) <;> (try simp only [castD_self, castL_self] at zz) <;> try (exfalso; first | omega | contradiction)) | (with_reducible refine Way.nt ?_) | ((with_reducible refine Way.mk (fun _ => ?_) (fun _ => ?_)) <;> try (exfalso; rename_i hw; first | exact Bool.noConfusion ((Go.RowKit.Hid.out hcf).symm.trans hw) | exact Bool.noConfusion (hw.symm.trans (Go.RowKit.Hid.out hcf)))) | (with_reducible refine Drawn.mk (by kernel_rfl) ?_) | (refine Run.mk ?_)))
                all_goals (
                  refine Cend.go ?_
                  (repeat' (first | (with_reducible refine Cend.go ?_) | (with_reducible refine Step.mk True.intro ?_) | (with_reducible refine Step.mk ?_ ?_; focus (((try simp only [true_and, and_true, and_self, kmin, kmax, decide_eq_true_eq, decide_eq_false_iff_not, castD_self, castL_self, List.length_cons, List.length_nil, List.length_append, Int.natCast_add] at *) <;> omega))) | (with_reducible refine Step.mk ?_ ?_) | (with_reducible refine Way.t1 ?_) | (with_reducible refine Way.f1 ?_) | ((with_reducible refine Way.dec (fun zz => ?_) (fun zz => ?_)) <;> (try simp only [castD_self, castL_self] at zz) <;> try (exfalso; first | omega | contradiction)) | (with_reducible refine Way.nt ?_) | ((with_reducible refine Way.mk (fun _ => ?_) (fun _ => ?_)) <;> try (exfalso; rename_i hw; first | exact Bool.noConfusion ((Go.RowKit.Hid.out hcf).symm.trans hw) | exact Bool.noConfusion (hw.symm.trans (Go.RowKit.Hid.out hcf)))) | (with_reducible refine Drawn.mk (by kernel_rfl) ?_) | (refine Run.mk ?_)))
                  all_goals first
                    | exact ⟨hpo.out, hpl⟩
                    | exact ⟨hqo.out, hql⟩
                    | exact ⟨hra.out, hbl, hil⟩
                    | exact ⟨hrb.out, hbl, hjl⟩
                    | exact hcl
                    | (refine Back.by (k + 1, (R.getD ((k : Int)).toNat tRg.dflt).2.1, D, some ((m ++ (List.drop a0.toNat (List.take (R.getD ((k : Int)).toNat tRg.dflt).1.toNat b))) ++ (raw b (R.getD ((k : Int)).toNat tRg.dflt).2.1 (R.getD ((k : Int)).toNat tRg.dflt).1 (inR p (R.getD ((k : Int)).toNat tRg.dflt).1 (R.getD ((k : Int)).toNat tRg.dflt).2.1)))) ?_ ?_ ?_; (focus (dsimp only [mgH]; (focus (refine Wk.ren [(92, 109054)] rfl ?_ ?_ <;> repeat' (first | exact True.intro | refine And.intro rfl ?_ | refine And.intro (congrArg (fun z : Int => AV.v false [Lf.d (.int .i64) z]) (by first | omega | (simp only [Int.natCast_add, List.length_cons, List.length_append, List.length_nil]; omega))) ?_ | refine And.intro ?_ ?_))); done)); (focus (refine ⟨hlt, hrg.out, hmN.out, ?_, ?_, ?_⟩; (focus (show List.length _ ≤ 2 * (k + 1); (try simp only [List.length_append, List.length_cons, List.length_nil]); omega)); (focus (intro z; cases z)); (focus (intro L z; cases z; (try simp only [List.length_append]); omega)))); (focus (show R.length - (k + 1) < R.length - k; omega))))
            · by_cases hE : (raw b (R.getD ((k : Int)).toNat tRg.dflt).2.1 (R.getD ((k : Int)).toNat tRg.dflt).1 (inR p (R.getD ((k : Int)).toNat tRg.dflt).1 (R.getD ((k : Int)).toNat tRg.dflt).2.1)) = (raw b (R.getD ((k : Int)).toNat tRg.dflt).2.1 (R.getD ((k : Int)).toNat tRg.dflt).1 (inR q (R.getD ((k : Int)).toNat tRg.dflt).1 (R.getD ((k : Int)).toNat tRg.dflt).2.1))
              · by_cases hL : (raw b (R.getD ((k : Int)).toNat tRg.dflt).2.1 (R.getD ((k : Int)).toNat tRg.dflt).1 (inR p (R.getD ((k : Int)).toNat tRg.dflt).1 (R.getD ((k : Int)).toNat tRg.dflt).2.1)).length = 0
                · skip
                  have e1 : plF (D, some m) (List.drop a0.toNat (List.take (R.getD ((k : Int)).toNat tRg.dflt).1.toNat b)) = (D, some (m ++ (List.drop a0.toNat (List.take (R.getD ((k : Int)).toNat tRg.dflt).1.toNat b)))) := if_neg hpre
                  have e2 : mgS b p q (R.getD ((k : Int)).toNat tRg.dflt).1 (R.getD ((k : Int)).toNat tRg.dflt).2.1 (D, some (m ++ (List.drop a0.toNat (List.take (R.getD ((k : Int)).toNat tRg.dflt).1.toNat b)))) = (D, some (m ++ (List.drop a0.toNat (List.take (R.getD ((k : Int)).toNat tRg.dflt).1.toNat b)))) := (if_pos (.inr hE)).trans (if_pos hL)
                  rw [e1, e2] at hmN
                  replace hmN := Lib.hid hmN
                  clear e1 e2
                  dsimp only [mgH]
                  (repeat' (first | (with_reducible refine Step.mk True.intro ?_) | (with_reducible refine Step.mk ?_ ?_; focus (((try simp only [true_and, and_true, and_self, kmin, kmax, decide_eq_true_eq, decide_eq_false_iff_not, castD_self, castL_self, List.length_cons, List.length_nil, List.length_append, Int.natCast_add] at *) <;> omega))) | (with_reducible refine Step.mk ?_ ?_) | (with_reducible refine Way.t1 ?_) | (with_reducible refine Way.f1 ?_) | ((with_reducible refine Way.dec (fun zz => ?_) (fun zz => ?_)) <;> (try simp only [castD_self, castL_self] at zz) <;> try (exfalso; first | omega | contradiction)) | (with_reducible refine Way.nt ?_) | ((with_reducible refine Way.mk (fun _ => ?_) (fun _ => ?_)) <;> try (exfalso; rename_i hw; first | exact Bool.noConfusion ((Go.RowKit.Hid.out hcf).symm.trans hw) | exact Bool.noConfusion (hw.symm.trans (Go.RowKit.Hid.out hcf)))) | (with_reducible refine Drawn.mk (by kernel_rfl) ?_) | (refine Run.mk ?_)))
                  all_goals (
                    refine Cend.go ?_
                    (repeat' (first | (with_reducible refine Cend.go ?_) | (with_reducible refine Step.mk True.intro ?_) | (with_reducible refine Step.mk ?_ ?_; focus (((try simp only [true_and, and_true, and_self, kmin, kmax, decide_eq_true_eq, decide_eq_false_iff_not, castD_self, castL_self, List.length_cons, List.length_nil, List.length_append, Int.natCast_add] at *) <;> omega))) | (with_reducible refine Step.mk ?_ ?_) | (with_reducible refine Way.t1 ?_) | (with_reducible refine Way.f1 ?_) | ((with_reducible refine Way.dec (fun zz => ?_) (fun zz => ?_)) <;> (try simp only [castD_self, castL_self] at zz) <;> try (exfalso; first | omega | contradiction)) | (with_reducible refine Way.nt ?_) | ((with_reducible refine Way.mk (fun _ => ?_) (fun _ => ?_)) <;> try (exfalso; rename_i hw; first | exact Bool.noConfusion ((Go.RowKit.Hid.out hcf).symm.trans hw) | exact Bool.noConfusion (hw.symm.trans (Go.RowKit.Hid.out hcf)))) | (with_reducible refine Drawn.mk (by kernel_rfl) ?_) | (refine Run.mk ?_)))
                    all_goals first
                      | exact ⟨hpo.out, hpl⟩
                      | exact ⟨hqo.out, hql⟩
                      | exact ⟨hra.out, hbl, hil⟩
                      | exact ⟨hrb.out, hbl, hjl⟩
                      | exact hcl
                      | exact absurd hE (by assumption)
                      | (refine Back.by (k + 1, (R.getD ((k : Int)).toNat tRg.dflt).2.1, D, some (m ++ (List.drop a0.toNat (List.take (R.getD ((k : Int)).toNat tRg.dflt).1.toNat b)))) ?_ ?_ ?_; (focus (dsimp only [mgH]; (focus (refine Wk.ren [(92, 61054)] rfl ?_ ?_ <;> repeat' (first | exact True.intro | refine And.intro rfl ?_ | refine And.intro (congrArg (fun z : Int => AV.v false [Lf.d (.int .i64) z]) (by first | omega | (simp only [Int.natCast_add, List.length_cons, List.length_append, List.length_nil]; omega))) ?_ | refine And.intro ?_ ?_))); done)); (focus (refine ⟨hlt, hrg.out, hmN.out, ?_, ?_, ?_⟩; (focus (show List.length _ ≤ 2 * (k + 1); (try simp only [List.length_append, List.length_cons, List.length_nil]); omega)); (focus (intro z; cases z)); (focus (intro L z; cases z; (try simp only [List.length_append]); omega)))); (focus (show R.length - (k + 1) < R.length - k; omega))))
                · skip
                  have e1 : plF (D, some m) (List.drop a0.toNat (List.take (R.getD ((k : Int)).toNat tRg.dflt).1.toNat b)) = (D, some (m ++ (List.drop a0.toNat (List.take (R.getD ((k : Int)).toNat tRg.dflt).1.toNat b)))) := if_neg hpre
                  have e2 : mgS b p q (R.getD ((k : Int)).toNat tRg.dflt).1 (R.getD ((k : Int)).toNat tRg.dflt).2.1 (D, some (m ++ (List.drop a0.toNat (List.take (R.getD ((k : Int)).toNat tRg.dflt).1.toNat b)))) = (D, some ((m ++ (List.drop a0.toNat (List.take (R.getD ((k : Int)).toNat tRg.dflt).1.toNat b))) ++ (raw b (R.getD ((k : Int)).toNat tRg.dflt).2.1 (R.getD ((k : Int)).toNat tRg.dflt).1 (inR p (R.getD ((k : Int)).toNat tRg.dflt).1 (R.getD ((k : Int)).toNat tRg.dflt).2.1)))) := (if_pos (.inr hE)).trans (if_neg hL)
                  rw [e1, e2] at hmN
                  replace hmN := Lib.hid hmN
                  clear e1 e2
                  dsimp only [mgH]
                  (repeat' (first | (with_reducible refine Step.mk True.intro ?_) | (with_reducible refine Step.mk ?_ ?_; focus (((try simp only [true_and, and_true, and_self, kmin, kmax, decide_eq_true_eq, decide_eq_false_iff_not, castD_self, castL_self, List.length_cons, List.length_nil, List.length_append, Int.natCast_add] at *) <;> omega))) | (with_reducible refine Step.mk ?_ ?_) | (with_reducible refine Way.t1 ?_) | (with_reducible refine Way.f1 ?_) | ((with_reducible refine Way.dec (fun zz => ?_) (fun zz => ?_)) <;> (try simp only [castD_self, castL_self] at zz) <;> try (exfalso; first | omega | contradiction)) | (with_reducible refine Way.nt ?_) | ((with_reducible refine Way.mk (fun _ => ?_) (fun _ => ?_)) <;> try (exfalso; rename_i hw; first | exact Bool.noConfusion ((Go.RowKit.Hid.out hcf).symm.trans hw) | exact Bool.noConfusion (hw.symm.trans (Go.RowKit.Hid.out hcf)))) | (with_reducible refine Drawn.mk (by kernel_rfl) ?_) | (refine Run.mk ?_)))
                  all_goals (
                    refine Cend.go ?_
                    (repeat' (first | (with_reducible refine Cend.go ?_) | (with_reducible refine Step.mk True.intro ?_) | (with_reducible refine Step.mk ?_ ?_; focus (((try simp only [true_and, and_true, and_self, kmin, kmax, decide_eq_true_eq, decide_eq_false_iff_not, castD_self, castL_self, List.length_cons, List.length_nil, List.length_append, Int.natCast_add] at *) <;> omega))) | (with_reducible refine Step.mk ?_ ?_) | (with_reducible refine Way.t1 ?_) | (with_reducible refine Way.f1 ?_) | ((with_reducible refine Way.dec (fun zz => ?_) (fun zz => ?_)) <;> (try simp only [castD_self, castL_self] at zz) <;> try (exfalso; first | omega | contradiction)) | (with_reducible refine Way.nt ?_) | ((with_reducible refine Way.mk (fun _ => ?_) (fun _ => ?_)) <;> try (exfalso; rename_i hw; first | exact Bool.noConfusion ((Go.RowKit.Hid.out hcf).symm.trans hw) | exact Bool.noConfusion (hw.symm.trans (Go.RowKit.Hid.out hcf)))) | (with_reducible refine Drawn.mk (by kernel_rfl) ?_) | (refine Run.mk ?_)))
                    all_goals first
                      | exact ⟨hpo.out, hpl⟩
                      | exact ⟨hqo.out, hql⟩
                      | exact ⟨hra.out, hbl, hil⟩
                      | exact ⟨hrb.out, hbl, hjl⟩
                      | exact hcl
                      | exact absurd hE (by assumption)
                      | (refine Back.by (k + 1, (R.getD ((k : Int)).toNat tRg.dflt).2.1, D, some ((m ++ (List.drop a0.toNat (List.take (R.getD ((k : Int)).toNat tRg.dflt).1.toNat b))) ++ (raw b (R.getD ((k : Int)).toNat tRg.dflt).2.1 (R.getD ((k : Int)).toNat tRg.dflt).1 (inR p (R.getD ((k : Int)).toNat tRg.dflt).1 (R.getD ((k : Int)).toNat tRg.dflt).2.1)))) ?_ ?_ ?_; (focus (dsimp only [mgH]; (focus (refine Wk.ren [(92, 109054)] rfl ?_ ?_ <;> repeat' (first | exact True.intro | refine And.intro rfl ?_ | refine And.intro (congrArg (fun z : Int => AV.v false [Lf.d (.int .i64) z]) (by first | omega | (simp only [Int.natCast_add, List.length_cons, List.length_append, List.length_nil]; omega))) ?_ | refine And.intro ?_ ?_))); done)); (focus (refine ⟨hlt, hrg.out, hmN.out, ?_, ?_, ?_⟩; (focus (show List.length _ ≤ 2 * (k + 1); (try simp only [List.length_append, List.length_cons, List.length_nil]); omega)); (focus (intro z; cases z)); (focus (intro L z; cases z; (try simp only [List.length_append]); omega)))); (focus (show R.length - (k + 1) < R.length - k; omega))))
              · by_cases hM : (inR p (R.getD ((k : Int)).toNat tRg.dflt).1 (R.getD ((k : Int)).toNat tRg.dflt).2.1).length = 0
                · by_cases hL : (raw b (R.getD ((k : Int)).toNat tRg.dflt).2.1 (R.getD ((k : Int)).toNat tRg.dflt).1 (inR q (R.getD ((k : Int)).toNat tRg.dflt).1 (R.getD ((k : Int)).toNat tRg.dflt).2.1)).length = 0
                  · skip
                    have e1 : plF (D, some m) (List.drop a0.toNat (List.take (R.getD ((k : Int)).toNat tRg.dflt).1.toNat b)) = (D, some (m ++ (List.drop a0.toNat (List.take (R.getD ((k : Int)).toNat tRg.dflt).1.toNat b)))) := if_neg hpre
                    have e2 : mgS b p q (R.getD ((k : Int)).toNat tRg.dflt).1 (R.getD ((k : Int)).toNat tRg.dflt).2.1 (D, some (m ++ (List.drop a0.toNat (List.take (R.getD ((k : Int)).toNat tRg.dflt).1.toNat b)))) = (D, some (m ++ (List.drop a0.toNat (List.take (R.getD ((k : Int)).toNat tRg.dflt).1.toNat b)))) := ((if_neg (fun z => z.elim hT hE)).trans (if_pos hM)).trans (if_pos hL)
                    rw [e1, e2] at hmN
                    replace hmN := Lib.hid hmN
                    clear e1 e2
                    dsimp only [mgH]
                    (repeat' (first | (with_reducible refine Step.mk True.intro ?_) | (with_reducible refine Step.mk ?_ ?_; focus (((try simp only [true_and, and_true, and_self, kmin, kmax, decide_eq_true_eq, decide_eq_false_iff_not, castD_self, castL_self, List.length_cons, List.length_nil, List.length_append, Int.natCast_add] at *) <;> omega))) | (with_reducible refine Step.mk ?_ ?_) | (with_reducible refine Way.t1 ?_) | (with_reducible refine Way.f1 ?_) | ((with_reducible refine Way.dec (fun zz => ?_) (fun zz => ?_)) <;> (try simp only [castD_self, castL_self] at zz) <;> try (exfalso; first | omega | contradiction)) | (with_reducible refine Way.nt ?_) | ((with_reducible refine Way.mk (fun _ => ?_) (fun _ => ?_)) <;> try (exfalso; rename_i hw; first | exact Bool.noConfusion ((Go.RowKit.Hid.out hcf).symm.trans hw) | exact Bool.noConfusion (hw.symm.trans (Go.RowKit.Hid.out hcf)))) | (with_reducible refine Drawn.mk (by kernel_rfl) ?_) | (refine Run.mk ?_)))
                    all_goals (
                      refine Cend.go ?_
                      (repeat' (first | (with_reducible refine Cend.go ?_) | (with_reducible refine Step.mk True.intro ?_) | (with_reducible refine Step.mk ?_ ?_; focus (((try simp only [true_and, and_true, and_self, kmin, kmax, decide_eq_true_eq, decide_eq_false_iff_not, castD_self, castL_self, List.length_cons, List.length_nil, List.length_append, Int.natCast_add] at *) <;> omega))) | (with_reducible refine Step.mk ?_ ?_) | (with_reducible refine Way.t1 ?_) | (with_reducible refine Way.f1 ?_) | ((with_reducible refine Way.dec (fun zz => ?_) (fun zz => ?_)) <;> (try simp only [castD_self, castL_self] at zz) <;> try (exfalso; first | omega | contradiction)) | (with_reducible refine Way.nt ?_) | ((with_reducible refine Way.mk (fun _ => ?_) (fun _ => ?_)) <;> try (exfalso; rename_i hw; first | exact Bool.noConfusion ((Go.RowKit.Hid.out hcf).symm.trans hw) | exact Bool.noConfusion (hw.symm.trans (Go.RowKit.Hid.out hcf)))) | (with_reducible refine Drawn.mk (by kernel_rfl) ?_) | (refine Run.mk ?_)))
                      all_goals first
                        | exact ⟨hpo.out, hpl⟩
                        | exact ⟨hqo.out, hql⟩
                        | exact ⟨hra.out, hbl, hil⟩
                        | exact ⟨hrb.out, hbl, hjl⟩
                        | exact hcl
                        | exact absurd (by assumption) hE
                        | (refine Back.by (k + 1, (R.getD ((k : Int)).toNat tRg.dflt).2.1, D, some (m ++ (List.drop a0.toNat (List.take (R.getD ((k : Int)).toNat tRg.dflt).1.toNat b)))) ?_ ?_ ?_; (focus (dsimp only [mgH]; (focus (refine Wk.ren [(92, 61054)] rfl ?_ ?_ <;> repeat' (first | exact True.intro | refine And.intro rfl ?_ | refine And.intro (congrArg (fun z : Int => AV.v false [Lf.d (.int .i64) z]) (by first | omega | (simp only [Int.natCast_add, List.length_cons, List.length_append, List.length_nil]; omega))) ?_ | refine And.intro ?_ ?_))); done)); (focus (refine ⟨hlt, hrg.out, hmN.out, ?_, ?_, ?_⟩; (focus (show List.length _ ≤ 2 * (k + 1); (try simp only [List.length_append, List.length_cons, List.length_nil]); omega)); (focus (intro z; cases z)); (focus (intro L z; cases z; (try simp only [List.length_append]); omega)))); (focus (show R.length - (k + 1) < R.length - k; omega))))
                  · skip
                    have e1 : plF (D, some m) (List.drop a0.toNat (List.take (R.getD ((k : Int)).toNat tRg.dflt).1.toNat b)) = (D, some (m ++ (List.drop a0.toNat (List.take (R.getD ((k : Int)).toNat tRg.dflt).1.toNat b)))) := if_neg hpre
                    have e2 : mgS b p q (R.getD ((k : Int)).toNat tRg.dflt).1 (R.getD ((k : Int)).toNat tRg.dflt).2.1 (D, some (m ++ (List.drop a0.toNat (List.take (R.getD ((k : Int)).toNat tRg.dflt).1.toNat b)))) = (D, some ((m ++ (List.drop a0.toNat (List.take (R.getD ((k : Int)).toNat tRg.dflt).1.toNat b))) ++ (raw b (R.getD ((k : Int)).toNat tRg.dflt).2.1 (R.getD ((k : Int)).toNat tRg.dflt).1 (inR q (R.getD ((k : Int)).toNat tRg.dflt).1 (R.getD ((k : Int)).toNat tRg.dflt).2.1)))) := ((if_neg (fun z => z.elim hT hE)).trans (if_pos hM)).trans (if_neg hL)
                    rw [e1, e2] at hmN
                    replace hmN := Lib.hid hmN
                    clear e1 e2
                    dsimp only [mgH]
                    (repeat' (first | (with_reducible refine Step.mk True.intro ?_) | (with_reducible refine Step.mk ?_ ?_; focus (((try simp only [true_and, and_true, and_self, kmin, kmax, decide_eq_true_eq, decide_eq_false_iff_not, castD_self, castL_self, List.length_cons, List.length_nil, List.length_append, Int.natCast_add] at *) <;> omega))) | (with_reducible refine Step.mk ?_ ?_) | (with_reducible refine Way.t1 ?_) | (with_reducible refine Way.f1 ?_) | ((with_reducible refine Way.dec (fun zz => ?_) (fun zz => ?_)) <;> (try simp only [castD_self, castL_self] at zz) <;> try (exfalso; first | omega | contradiction)) | (with_reducible refine Way.nt ?_) | ((with_reducible refine Way.mk (fun _ => ?_) (fun _ => ?_)) <;> try (exfalso; rename_i hw; first | exact Bool.noConfusion ((Go.RowKit.Hid.out hcf).symm.trans hw) | exact Bool.noConfusion (hw.symm.trans (Go.RowKit.Hid.out hcf)))) | (with_reducible refine Drawn.mk (by kernel_rfl) ?_) | (refine Run.mk ?_)))
                    all_goals (
                      refine Cend.go ?_
                      (repeat' (first | (with_reducible refine Cend.go ?_) | (with_reducible refine Step.mk True.intro ?_) | (with_reducible refine Step.mk ?_ ?_; focus (((try simp only [true_and, and_true, and_self, kmin, kmax, decide_eq_true_eq, decide_eq_false_iff_not, castD_self, castL_self, List.length_cons, List.length_nil, List.length_append, Int.natCast_add] at *) <;> omega))) | (with_reducible refine Step.mk ?_ ?_) | (with_reducible refine Way.t1 ?_) | (with_reducible refine Way.f1 ?_) | ((with_reducible refine Way.dec (fun zz => ?_) (fun zz => ?_)) <;> (try simp only [castD_self, castL_self] at zz) <;> try (exfalso; first | omega | contradiction)) | (with_reducible refine Way.nt ?_) | ((with_reducible refine Way.mk (fun _ => ?_) (fun _ => ?_)) <;> try (exfalso; rename_i hw; first | exact Bool.noConfusion ((Go.RowKit.Hid.out hcf).symm.trans hw) | exact Bool.noConfusion (hw.symm.trans (Go.RowKit.Hid.out hcf)))) | (with_reducible refine Drawn.mk (by kernel_rfl) ?_) | (refine Run.mk ?_)))
                      all_goals first
                        | exact ⟨hpo.out, hpl⟩
                        | exact ⟨hqo.out, hql⟩
                        | exact ⟨hra.out, hbl, hil⟩
                        | exact ⟨hrb.out, hbl, hjl⟩
                        | exact hcl
                        | exact absurd (by assumption) hE
                        | (refine Back.by (k + 1, (R.getD ((k : Int)).toNat tRg.dflt).2.1, D, some ((m ++ (List.drop a0.toNat (List.take (R.getD ((k : Int)).toNat tRg.dflt).1.toNat b))) ++ (raw b (R.getD ((k : Int)).toNat tRg.dflt).2.1 (R.getD ((k : Int)).toNat tRg.dflt).1 (inR q (R.getD ((k : Int)).toNat tRg.dflt).1 (R.getD ((k : Int)).toNat tRg.dflt).2.1)))) ?_ ?_ ?_; (focus (dsimp only [mgH]; (focus (refine Wk.ren [(92, 115054)] rfl ?_ ?_ <;> repeat' (first | exact True.intro | refine And.intro rfl ?_ | refine And.intro (congrArg (fun z : Int => AV.v false [Lf.d (.int .i64) z]) (by first | omega | (simp only [Int.natCast_add, List.length_cons, List.length_append, List.length_nil]; omega))) ?_ | refine And.intro ?_ ?_))); done)); (focus (refine ⟨hlt, hrg.out, hmN.out, ?_, ?_, ?_⟩; (focus (show List.length _ ≤ 2 * (k + 1); (try simp only [List.length_append, List.length_cons, List.length_nil]); omega)); (focus (intro z; cases z)); (focus (intro L z; cases z; (try simp only [List.length_append]); omega)))); (focus (show R.length - (k + 1) < R.length - k; omega))))
                · skip
                  have e1 : plF (D, some m) (List.drop a0.toNat (List.take (R.getD ((k : Int)).toNat tRg.dflt).1.toNat b)) = (D, some (m ++ (List.drop a0.toNat (List.take (R.getD ((k : Int)).toNat tRg.dflt).1.toNat b)))) := if_neg hpre
                  have e2 : mgS b p q (R.getD ((k : Int)).toNat tRg.dflt).1 (R.getD ((k : Int)).toNat tRg.dflt).2.1 (D, some (m ++ (List.drop a0.toNat (List.take (R.getD ((k : Int)).toNat tRg.dflt).1.toNat b)))) = (((D ++ [plCh (m ++ (List.drop a0.toNat (List.take (R.getD ((k : Int)).toNat tRg.dflt).1.toNat b)))]) ++ [(true, [], (List.drop (R.getD ((k : Int)).toNat tRg.dflt).1.toNat (List.take (R.getD ((k : Int)).toNat tRg.dflt).2.1.toNat b)), (raw b (R.getD ((k : Int)).toNat tRg.dflt).2.1 (R.getD ((k : Int)).toNat tRg.dflt).1 (inR p (R.getD ((k : Int)).toNat tRg.dflt).1 (R.getD ((k : Int)).toNat tRg.dflt).2.1)), (raw b (R.getD ((k : Int)).toNat tRg.dflt).2.1 (R.getD ((k : Int)).toNat tRg.dflt).1 (inR q (R.getD ((k : Int)).toNat tRg.dflt).1 (R.getD ((k : Int)).toNat tRg.dflt).2.1)))]), none) := (if_neg (fun z => z.elim hT hE)).trans (if_neg hM)
                  rw [e1, e2] at hmN
                  replace hmN := Lib.hid hmN
                  clear e1 e2
                  dsimp only [mgH]
                  (repeat' (first | (with_reducible refine Step.mk True.intro ?_) | (with_reducible refine Step.mk ?_ ?_; focus (((try simp only [true_and, and_true, and_self, kmin, kmax, decide_eq_true_eq, decide_eq_false_iff_not, castD_self, castL_self, List.length_cons, List.length_nil, List.length_append, Int.natCast_add] at *) <;> omega))) | (with_reducible refine Step.mk ?_ ?_) | (with_reducible refine Way.t1 ?_) | (with_reducible refine Way.f1 ?_) | ((with_reducible refine Way.dec (fun zz => ?_) (fun zz => ?_)) <;> (try simp only [castD_self, castL_self] at zz) <;> try (exfalso; first | omega | contradiction)) | (with_reducible refine Way.nt ?_) | ((with_reducible refine Way.mk (fun _ => ?_) (fun _ => ?_)) <;> try (exfalso; rename_i hw; first | exact Bool.noConfusion ((Go.RowKit.Hid.out hcf).symm.trans hw) | exact Bool.noConfusion (hw.symm.trans (Go.RowKit.Hid.out hcf)))) | (with_reducible refine Drawn.mk (by kernel_rfl) ?_) | (refine Run.mk ?_)))
                  all_goals (
                    refine Cend.wk (fun n => Wk.pack 91 (E := 40) (t := tCh) (l1 := D) (l2 := []) (x := plCh (m ++ (List.drop a0.toNat (List.take (R.getD ((k : Int)).toNat tRg.dflt).1.toNat b)))) (hl' := [.put 14 (.box 53 [.o 91]), .put 7 (.box 25 [.d (.int .i64) 0, .d (.int .i64) 0]), .put 10 (.box 44 [.d (.slice tHk) p]), .put 12 (.box 44 [.d (.slice tHk) q]), .put 17 (.box 57 [.d (.int .i64) (R.getD ((k : Int)).toNat tRg.dflt).1, .d (.int .i64) (R.getD ((k : Int)).toNat tRg.dflt).2.1, .d (.int .i64) (R.getD ((k : Int)).toNat tRg.dflt).2.2])]) rfl rfl (by repeat' (first | exact True.intro | refine And.intro rfl ?_)) rfl rfl) ?_
                    (repeat' (first | (with_reducible refine Cend.go ?_) | (with_reducible refine Step.mk True.intro ?_) | (with_reducible refine Step.mk ?_ ?_; focus (((try simp only [true_and, and_true, and_self, kmin, kmax, decide_eq_true_eq, decide_eq_false_iff_not, castD_self, castL_self, List.length_cons, List.length_nil, List.length_append, Int.natCast_add] at *) <;> omega))) | (with_reducible refine Step.mk ?_ ?_) | (with_reducible refine Way.t1 ?_) | (with_reducible refine Way.f1 ?_) | ((with_reducible refine Way.dec (fun zz => ?_) (fun zz => ?_)) <;> (try simp only [castD_self, castL_self] at zz) <;> try (exfalso; first | omega | contradiction)) | (with_reducible refine Way.nt ?_) | ((with_reducible refine Way.mk (fun _ => ?_) (fun _ => ?_)) <;> try (exfalso; rename_i hw; first | exact Bool.noConfusion ((Go.RowKit.Hid.out hcf).symm.trans hw) | exact Bool.noConfusion (hw.symm.trans (Go.RowKit.Hid.out hcf)))) | (with_reducible refine Drawn.mk (by kernel_rfl) ?_) | (refine Run.mk ?_)))
                    all_goals first
                      | exact ⟨hpo.out, hpl⟩
                      | exact ⟨hqo.out, hql⟩
                      | exact ⟨hra.out, hbl, hil⟩
                      | exact ⟨hrb.out, hbl, hjl⟩
                      | exact hcl
                      | exact absurd (by assumption) hE
                      | (refine Back.by (k + 1, (R.getD ((k : Int)).toNat tRg.dflt).2.1, ((D ++ [plCh (m ++ (List.drop a0.toNat (List.take (R.getD ((k : Int)).toNat tRg.dflt).1.toNat b)))]) ++ [(true, [], (List.drop (R.getD ((k : Int)).toNat tRg.dflt).1.toNat (List.take (R.getD ((k : Int)).toNat tRg.dflt).2.1.toNat b)), (raw b (R.getD ((k : Int)).toNat tRg.dflt).2.1 (R.getD ((k : Int)).toNat tRg.dflt).1 (inR p (R.getD ((k : Int)).toNat tRg.dflt).1 (R.getD ((k : Int)).toNat tRg.dflt).2.1)), (raw b (R.getD ((k : Int)).toNat tRg.dflt).2.1 (R.getD ((k : Int)).toNat tRg.dflt).1 (inR q (R.getD ((k : Int)).toNat tRg.dflt).1 (R.getD ((k : Int)).toNat tRg.dflt).2.1)))]), none) ?_ ?_ ?_; (focus (dsimp only [mgH]; refine Wk.trans (Wk.pack 96 (E := 40) (t := tCh) (l1 := (D ++ [plCh (m ++ (List.drop a0.toNat (List.take (R.getD ((k : Int)).toNat tRg.dflt).1.toNat b)))])) (l2 := []) (x := (true, [], (List.drop (R.getD ((k : Int)).toNat tRg.dflt).1.toNat (List.take (R.getD ((k : Int)).toNat tRg.dflt).2.1.toNat b)), (raw b (R.getD ((k : Int)).toNat tRg.dflt).2.1 (R.getD ((k : Int)).toNat tRg.dflt).1 (inR p (R.getD ((k : Int)).toNat tRg.dflt).1 (R.getD ((k : Int)).toNat tRg.dflt).2.1)), (raw b (R.getD ((k : Int)).toNat tRg.dflt).2.1 (R.getD ((k : Int)).toNat tRg.dflt).1 (inR q (R.getD ((k : Int)).toNat tRg.dflt).1 (R.getD ((k : Int)).toNat tRg.dflt).2.1)))) (hl' := [.put 14 (.box 53 [.o 96]), .put 7 (.box 25 [.d (.int .i64) 0, .d (.int .i64) 0]), .put 10 (.box 44 [.d (.slice tHk) p]), .put 12 (.box 44 [.d (.slice tHk) q])]) rfl rfl (by repeat' (first | exact True.intro | refine And.intro rfl ?_)) rfl rfl) ?_; (focus (refine Wk.ren [(91, 96)] rfl ?_ ?_ <;> repeat' (first | exact True.intro | refine And.intro rfl ?_ | refine And.intro (congrArg (fun z : Int => AV.v false [Lf.d (.int .i64) z]) (by first | omega | (simp only [Int.natCast_add, List.length_cons, List.length_append, List.length_nil]; omega))) ?_ | refine And.intro ?_ ?_))); done)); (focus (refine ⟨hlt, hrg.out, hmN.out, ?_, ?_, ?_⟩; (focus (show List.length _ ≤ 2 * (k + 1); (try simp only [List.length_append, List.length_cons, List.length_nil]); omega)); (focus (intro _ _; exact congrArg Prod.fst (getD_last _ _ _))); (focus (intro L z; cases z)))); (focus (show R.length - (k + 1) < R.length - k; omega))))
      --NEG
      · have e : R.drop k = [] := List.drop_eq_nil_of_le (by omega)
        rw [e] at hrg hmN
        obtain ⟨r0, r1⟩ := (show 0 ≤ a0 ∧ a0 ≤ b.length from hrg)
        have hmN : mgL b p q = flushM (plF (D, cur) (b.drop a0.toNat)) := congrArg flushM hmN
        clear e hrg
        have ePr : (List.drop a0.toNat (List.take ((b.length : Nat) : Int).toNat b)) = b.drop a0.toNat := by simp
        rw [← ePr] at hmN
        rw [hmN]
        have hPl : (List.drop a0.toNat (List.take ((b.length : Nat) : Int).toNat b)).length ≤ 120 := by rw [ePr, List.length_drop]; omega
        rcases cur with _ | m
        · by_cases hpre : (List.drop a0.toNat (List.take ((b.length : Nat) : Int).toNat b)).length = 0
          · rw [show flushM (plF (D, none) (List.drop a0.toNat (List.take ((b.length : Nat) : Int).toNat b))) = D from congrArg flushM (if_pos hpre)]
            clear ePr hmN
            dsimp only [mgH]
            (repeat' (first | (with_reducible refine Cend.go ?_) | (with_reducible refine Step.mk True.intro ?_) | (with_reducible refine Step.mk ?_ ?_; focus (((try simp only [true_and, and_true, and_self, kmin, kmax, decide_eq_true_eq, decide_eq_false_iff_not, castD_self, castL_self, List.length_cons, List.length_nil, List.length_append, Int.natCast_add] at *) <;> omega))) | (with_reducible refine Step.mk ?_ ?_) | (with_reducible refine Way.t1 ?_) | (with_reducible refine Way.f1 ?_) | ((with_reducible refine Way.dec (fun zz => ?_) (fun zz => ?_)) <;> (try simp only [castD_self, castL_self] at zz) <;> try (exfalso; first | omega | contradiction)) | (with_reducible refine Way.nt ?_) | ((with_reducible refine Way.mk (fun _ => ?_) (fun _ => ?_)) <;> try (exfalso; rename_i hw; first | exact Bool.noConfusion ((Go.RowKit.Hid.out hf).symm.trans hw) | exact Bool.noConfusion (hw.symm.trans (Go.RowKit.Hid.out hf)))) | (with_reducible refine Drawn.mk (by kernel_rfl) ?_) | (refine Run.mk ?_)))
            exact Ret.mk ⟨⟨rfl, .frz rfl, True.intro⟩, ⟨rfl, .same, .same, True.intro⟩, True.intro⟩
          · rw [show flushM (plF (D, none) (List.drop a0.toNat (List.take ((b.length : Nat) : Int).toNat b))) = D ++ [plCh (List.drop a0.toNat (List.take ((b.length : Nat) : Int).toNat b))] from congrArg flushM (if_neg hpre)]
            clear ePr hmN
            by_cases hD : D.length = 0
            · dsimp only [mgH]
              (repeat' (first | (with_reducible refine Cend.go ?_) | (with_reducible refine Step.mk True.intro ?_) | (with_reducible refine Step.mk ?_ ?_; focus (((try simp only [true_and, and_true, and_self, kmin, kmax, decide_eq_true_eq, decide_eq_false_iff_not, castD_self, castL_self, List.length_cons, List.length_nil, List.length_append, Int.natCast_add] at *) <;> omega))) | (with_reducible refine Step.mk ?_ ?_) | (with_reducible refine Way.t1 ?_) | (with_reducible refine Way.f1 ?_) | ((with_reducible refine Way.dec (fun zz => ?_) (fun zz => ?_)) <;> (try simp only [castD_self, castL_self] at zz) <;> try (exfalso; first | omega | contradiction)) | (with_reducible refine Way.nt ?_) | ((with_reducible refine Way.mk (fun _ => ?_) (fun _ => ?_)) <;> try (exfalso; rename_i hw; first | exact Bool.noConfusion ((Go.RowKit.Hid.out hf).symm.trans hw) | exact Bool.noConfusion (hw.symm.trans (Go.RowKit.Hid.out hf)))) | (with_reducible refine Drawn.mk (by kernel_rfl) ?_) | (refine Run.mk ?_)))
              exact Ret.mk ⟨⟨rfl, .frz rfl, True.intro⟩, ⟨rfl, .same, .same, True.intro⟩, True.intro⟩
            · have hcf : (D.getD ((((D.length : Nat) : Int)) - 1).toNat tCh.dflt).1 = true := by rw [show ((((D.length : Nat) : Int)) - 1).toNat = D.length - 1 by omega]; exact hcf0.out rfl (by omega)
              replace hcf := Lib.hid hcf
              dsimp only [mgH]
              (repeat' (first | (with_reducible refine Cend.go ?_) | (with_reducible refine Step.mk True.intro ?_) | (with_reducible refine Step.mk ?_ ?_; focus (((try simp only [true_and, and_true, and_self, kmin, kmax, decide_eq_true_eq, decide_eq_false_iff_not, castD_self, castL_self, List.length_cons, List.length_nil, List.length_append, Int.natCast_add] at *) <;> omega))) | (with_reducible refine Step.mk ?_ ?_) | (with_reducible refine Way.t1 ?_) | (with_reducible refine Way.f1 ?_) | ((with_reducible refine Way.dec (fun zz => ?_) (fun zz => ?_)) <;> (try simp only [castD_self, castL_self] at zz) <;> try (exfalso; first | omega | contradiction)) | (with_reducible refine Way.nt ?_) | ((with_reducible refine Way.mk (fun _ => ?_) (fun _ => ?_)) <;> try (exfalso; rename_i hw; first | exact Bool.noConfusion ((Go.RowKit.Hid.out hcf).symm.trans hw) | exact Bool.noConfusion (hw.symm.trans (Go.RowKit.Hid.out hcf)))) | (with_reducible refine Drawn.mk (by kernel_rfl) ?_) | (refine Run.mk ?_)))
              exact Ret.mk ⟨⟨rfl, .frz rfl, True.intro⟩, ⟨rfl, .same, .same, True.intro⟩, True.intro⟩
        · have hml := hL0.out m rfl
          by_cases hpre : (List.drop a0.toNat (List.take ((b.length : Nat) : Int).toNat b)).length = 0
          · rw [show flushM (plF (D, some m) (List.drop a0.toNat (List.take ((b.length : Nat) : Int).toNat b))) = D ++ [plCh m] from congrArg flushM (if_pos hpre)]
            clear ePr hmN
            dsimp only [mgH]
            (repeat' (first | (with_reducible refine Cend.go ?_) | (with_reducible refine Step.mk True.intro ?_) | (with_reducible refine Step.mk ?_ ?_; focus (((try simp only [true_and, and_true, and_self, kmin, kmax, decide_eq_true_eq, decide_eq_false_iff_not, castD_self, castL_self, List.length_cons, List.length_nil, List.length_append, Int.natCast_add] at *) <;> omega))) | (with_reducible refine Step.mk ?_ ?_) | (with_reducible refine Way.t1 ?_) | (with_reducible refine Way.f1 ?_) | ((with_reducible refine Way.dec (fun zz => ?_) (fun zz => ?_)) <;> (try simp only [castD_self, castL_self] at zz) <;> try (exfalso; first | omega | contradiction)) | (with_reducible refine Way.nt ?_) | ((with_reducible refine Way.mk (fun _ => ?_) (fun _ => ?_)) <;> try (exfalso; rename_i hw; first | exact Bool.noConfusion ((Go.RowKit.Hid.out hf).symm.trans hw) | exact Bool.noConfusion (hw.symm.trans (Go.RowKit.Hid.out hf)))) | (with_reducible refine Drawn.mk (by kernel_rfl) ?_) | (refine Run.mk ?_)))
            exact Ret.mk ⟨⟨rfl, .frz rfl, True.intro⟩, ⟨rfl, .same, .same, True.intro⟩, True.intro⟩
          · rw [show flushM (plF (D, some m) (List.drop a0.toNat (List.take ((b.length : Nat) : Int).toNat b))) = D ++ [plCh (m ++ (List.drop a0.toNat (List.take ((b.length : Nat) : Int).toNat b)))] from congrArg flushM (if_neg hpre)]
            clear ePr hmN
            dsimp only [mgH]
            (repeat' (first | (with_reducible refine Cend.go ?_) | (with_reducible refine Step.mk True.intro ?_) | (with_reducible refine Step.mk ?_ ?_; focus (((try simp only [true_and, and_true, and_self, kmin, kmax, decide_eq_true_eq, decide_eq_false_iff_not, castD_self, castL_self, List.length_cons, List.length_nil, List.length_append, Int.natCast_add] at *) <;> omega))) | (with_reducible refine Step.mk ?_ ?_) | (with_reducible refine Way.t1 ?_) | (with_reducible refine Way.f1 ?_) | ((with_reducible refine Way.dec (fun zz => ?_) (fun zz => ?_)) <;> (try simp only [castD_self, castL_self] at zz) <;> try (exfalso; first | omega | contradiction)) | (with_reducible refine Way.nt ?_) | ((with_reducible refine Way.mk (fun _ => ?_) (fun _ => ?_)) <;> try (exfalso; rename_i hw; first | exact Bool.noConfusion ((Go.RowKit.Hid.out hf).symm.trans hw) | exact Bool.noConfusion (hw.symm.trans (Go.RowKit.Hid.out hf)))) | (with_reducible refine Drawn.mk (by kernel_rfl) ?_) | (refine Run.mk ?_)))
            exact Ret.mk ⟨⟨rfl, .frz rfl, True.intro⟩, ⟨rfl, .same, .same, True.intro⟩, True.intro⟩
    · have hC : mgC b l r = vC r := by unfold mgC; rw [if_neg (fun z => z h0)]
      have hI : mgI b l r = -3 := by unfold mgI; rw [if_neg (fun z => z h0), if_neg hr]
      have hV : mgV b l r = [] := if_neg (by rw [hC]; exact hr)
      have hz : (decide (vC r = 0) && decide ((if vC r = 0 then (0 : Int) else -3) = 0)) = false := by rw [decide_eq_false hr]; rfl
      dsimp only
      rw [hV, hC, hI]
      replace hf := Lib.hid hf
      replace hz := Lib.hid hz
      (refine fnM_of rfl rfl rfl rfl ?_; dsimp only [params, argAV, Ty.leaves, Ty.isSt])
      (repeat' (first | (with_reducible refine Cend.go ?_) | (with_reducible refine Step.mk True.intro ?_) | (with_reducible refine Step.mk ?_ ?_; focus (((try simp only [true_and, and_true, and_self, kmin, kmax, decide_eq_true_eq, decide_eq_false_iff_not, castD_self, castL_self, List.length_cons, List.length_nil, List.length_append, Int.natCast_add] at *) <;> omega))) | (with_reducible refine Step.mk ?_ ?_) | (with_reducible refine Way.t1 ?_) | (with_reducible refine Way.f1 ?_) | ((with_reducible refine Way.dec (fun _ => ?_) (fun _ => ?_)) <;> try (exfalso; omega)) | (with_reducible refine Way.nt ?_) | ((with_reducible refine Way.mk (fun _ => ?_) (fun _ => ?_)) <;> try (exfalso; rename_i hw; first | exact Bool.noConfusion ((Go.RowKit.Hid.out hf).symm.trans hw) | exact Bool.noConfusion (hw.symm.trans (Go.RowKit.Hid.out hf)))) | (with_reducible refine Drawn.mk (by kernel_rfl) ?_) | (refine Run.mk ?_)))
      all_goals try (rename_i z; exact Bool.noConfusion (hz.out.symm.trans z))
      refine Ret.mk ⟨⟨rfl, .frz rfl, True.intro⟩, ⟨rfl, .same, .inl ?_, True.intro⟩, True.intro⟩
      show Lf.d (Ty.int .i64) (if vC r = 0 then (0 : Int) else -3) = _
      rw [if_neg hr]
  · have hC : mgC b l r = bC b l := if_pos h0
    have hI : mgI b l r = bI b l := if_pos h0
    have hV : mgV b l r = [] := if_neg (by rw [hC]; exact h0)
    have hz : (decide (bC b l = 0) && decide (bI b l = 0)) = false := by rw [bfault, decide_eq_false h0]
    dsimp only
    rw [hV, hC, hI]
    replace hz := Lib.hid hz
    (refine fnM_of rfl rfl rfl rfl ?_; dsimp only [params, argAV, Ty.leaves, Ty.isSt])
    (repeat' (first | (with_reducible refine Cend.go ?_) | (with_reducible refine Step.mk True.intro ?_) | (with_reducible refine Step.mk ?_ ?_; focus (((try simp only [true_and, and_true, and_self, kmin, kmax, decide_eq_true_eq, decide_eq_false_iff_not, castD_self, castL_self, List.length_cons, List.length_nil, List.length_append, Int.natCast_add] at *) <;> omega))) | (with_reducible refine Step.mk ?_ ?_) | (with_reducible refine Way.t1 ?_) | (with_reducible refine Way.f1 ?_) | ((with_reducible refine Way.dec (fun _ => ?_) (fun _ => ?_)) <;> try (exfalso; omega)) | (with_reducible refine Way.nt ?_) | ((with_reducible refine Way.mk (fun _ => ?_) (fun _ => ?_)) <;> try (exfalso; rename_i hw; first | exact Bool.noConfusion ((Go.RowKit.Hid.out hz).symm.trans hw) | exact Bool.noConfusion (hw.symm.trans (Go.RowKit.Hid.out hz)))) | (with_reducible refine Drawn.mk (by kernel_rfl) ?_) | (refine Run.mk ?_)))
    exact Ret.mk ⟨⟨rfl, .frz rfl, True.intro⟩, ⟨rfl, .same, .same, True.intro⟩, True.intro⟩
end Go.Proofs.Ytppmhjaooiameaa
