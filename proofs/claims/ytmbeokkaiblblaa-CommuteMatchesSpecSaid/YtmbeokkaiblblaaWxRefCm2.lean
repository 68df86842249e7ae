/- The walk of the reference's Commute. -/
import Derived.Test.YtmbeokkaiblblaaWxRefCm
namespace Go.Proofs.Ytmbeokkaiblblaa
open Go.RowKit
set_option maxRecDepth 10000
set_option linter.unusedSimpArgs false

theorem rp_zero {p q : List Hk} (h : rpC p q = 0) : pC p = 0 ∧ pC q = 0 := by
  unfold rpC at h
  split at h
  · contradiction
  · rename_i h1; exact ⟨Classical.not_not.1 h1, h⟩
theorem cm_vals {p q : List Hk} (h1 : pC p = 0) (h2 : pC q = 0) : (meet (newR 0 p) (oldR q) = true → cmA p q = [] ∧ cmB p q = [] ∧ cmOk p q = false ∧ cmC p q = 0 ∧ cmI p q = 0) ∧
    (meet (newR 0 p) (oldR q) = false → ¬ (pC (cmFirst p q) = 0 ∧ pC (cmSecond p q) = 0) → cmA p q = [] ∧ cmB p q = [] ∧ cmOk p q = false ∧ cmC p q = 10 ∧ cmI p q = -1) ∧
    (meet (newR 0 p) (oldR q) = false → pC (cmFirst p q) = 0 → pC (cmSecond p q) = 0 → cmA p q = cmFirst p q ∧ cmB p q = cmSecond p q ∧ cmOk p q = true ∧ cmC p q = 0 ∧ cmI p q = 0) := by
  refine ⟨fun h3 => ?_, fun h3 h4 => ?_, fun h3 h4 h5 => ?_⟩
  · have ok : cmOk p q = false := by unfold cmOk; rw [h3]; simp
    refine ⟨if_neg (by rw [ok]; decide), if_neg (by rw [ok]; decide), ok, ?_, ?_⟩
    · unfold cmC; rw [if_neg (by rw [h1]; decide), if_neg (by rw [h2]; decide), if_pos h3]
    · unfold cmI; rw [if_neg (by rw [h1]; decide), if_neg (by rw [h2]; decide), if_pos h3]
  · have h4 : pC (cmFirst p q) ≠ 0 ∨ pC (cmSecond p q) ≠ 0 := by
      by_cases h : pC (cmFirst p q) = 0
      · exact .inr fun h5 => h4 ⟨h, h5⟩
      · exact .inl h
    have ok : cmOk p q = false := by
      unfold cmOk
      rcases h4 with h | h <;> rw [decide_eq_false h] <;> simp
    refine ⟨if_neg (by rw [ok]; decide), if_neg (by rw [ok]; decide), ok, ?_, ?_⟩
    · unfold cmC; rw [if_neg (by rw [h1]; decide), if_neg (by rw [h2]; decide), if_neg (by rw [h3]; decide), if_pos h4]
    · unfold cmI; rw [if_neg (by rw [h1]; decide), if_neg (by rw [h2]; decide), if_neg (by rw [h3]; decide), if_pos h4]
  · have ok : cmOk p q = true := cmOk_iff.2 ⟨h1, h2, h3, h4, h5⟩
    exact ⟨if_pos ok, if_pos ok, ok, (cm_code ok).1, (cm_code ok).2⟩
theorem cm_flt {p q : List Hk} (h : ¬ rpC p q = 0) : cmA p q = [] ∧ cmB p q = [] ∧ cmOk p q = false ∧ cmC p q = rpC p q ∧ cmI p q = rpI p q := by
  have h' : ¬ (pC p = 0 ∧ pC q = 0) := fun ⟨a, b⟩ => h (by unfold rpC; rw [if_neg (by rw [a]; decide)]; exact b)
  have ok : cmOk p q = false := by
    cases e : cmOk p q
    · rfl
    · exact absurd ⟨(cmOk_iff.1 e).1, (cmOk_iff.1 e).2.1⟩ h'
  refine ⟨if_neg (by rw [ok]; decide), if_neg (by rw [ok]; decide), ok, ?_, ?_⟩
  · unfold cmC rpC
    split
    · rfl
    · rename_i h1
      rw [if_pos fun h2 => h' ⟨Classical.not_not.1 h1, h2⟩]
  · unfold cmI rpI
    split
    · rfl
    · rename_i h1
      have h2 : ¬ pC q = 0 := fun h2 => h' ⟨Classical.not_not.1 h1, h2⟩
      rw [if_pos h2, if_neg h2]
def sp_RCommute : SpecF := pureSp false [tPat, tPat] (fun _ => True) (fun (p', q', _) => .tu [(true, [.d (.slice tHk) (cmA p' q')]), (true, [.d (.slice tHk) (cmB p' q')]), (false, [.d .bool (cmOk p' q')]), (true, [.d (.int .i64) (cmC p' q'), .d (.int .i64) (cmI p' q')])])
theorem RCommute_sp : SpFact 24 sp_RCommute := by
  refine ⟨⟨Try.f24, rfl, rfl, rfl, pureSp_okF (env_fine (sp := [(52, sp_RPair), (53, sp_news), (37, sp_REnd), (42, sp_RGrow), (54, sp_moved'), (18, sp_PF), (35, sp_At)]) (eq := [])
    ⟨RPair_sp, news_sp, REnd_sp, RGrow_sp, rmoved_sp, PF_sp, At_sp, True.intro⟩ True.intro) rfl (fun ⟨_, _, _⟩ _ => rfl) ?_⟩, pureSp_loc _ _ _ _⟩
  rintro ⟨p, q, u⟩ - -
  change List Hk at p q
  (refine fnM_of rfl rfl rfl rfl ?_; dsimp only [params, argAV, Ty.leaves, Ty.isSt])
  (repeat' (first | (with_reducible refine Step.mk True.intro ?_) | (with_reducible refine Step.mk ?_ ?_; focus (((try simp only [true_and, and_true, and_self, kmin, kmax, decide_eq_true_eq, decide_eq_false_iff_not, castD_self, castL_self, List.length_cons, List.length_nil, List.length_append, Int.natCast_add] at *) <;> omega))) | (with_reducible refine Step.mk ?_ ?_) | (with_reducible refine Way.t1 ?_) | (with_reducible refine Way.f1 ?_) | ((with_reducible refine Way.dec (fun _ => ?_) (fun _ => ?_)) <;> try (exfalso; omega)) | (with_reducible refine Way.nt ?_) | (with_reducible refine Way.mk (fun _ => ?_) (fun _ => ?_)) | (with_reducible refine Drawn.mk (by kernel_rfl) ?_) | (refine Run.mk ?_)))
  case' refine_2 =>
    rename_i h0
    have h0 : ¬ rpC p q = 0 := h0
    obtain ⟨e1, e2, e3, e4, e5⟩ := cm_flt h0
    refine Ret.mk ?_
    rw [e1, e2, e3, e4, e5]
    exact ⟨⟨rfl, .frz rfl, True.intro⟩, ⟨rfl, .frz rfl, True.intro⟩, ⟨rfl, .same, True.intro⟩, ⟨rfl, .same, .same, True.intro⟩, True.intro⟩
  rename_i h0
  have h0 : rpC p q = 0 := h0
  obtain ⟨hp, hq⟩ := rp_zero h0
  obtain ⟨lp, op⟩ := pC_ok hp
  obtain ⟨lq, oq⟩ := pC_ok hq
  obtain ⟨v1, v2, v3⟩ := cm_vals hp hq
  have hng := newR_gr p 0 op
  have hnl := newR_len' p 0
  have hbd := dl_bd'
  have noT0 : noT p q 0 := fun x _ y hy => by simp [oldR] at hy
  replace v1 := Lib.hid v1
  replace v2 := Lib.hid v2
  replace v3 := Lib.hid v3
  replace op := Lib.hid op
  replace oq := Lib.hid oq
  replace hng := Lib.hid hng
  replace hbd := Lib.hid hbd
  replace hp := Lib.hid hp
  replace hq := Lib.hid hq
  clear h0
  refine loop_by (X := Nat × List Hk) (fun x => [.put 2 (.v false [.p 2 0]), .put 3 (.v false [.p 3 0]), .put 4 (.v false [.p 4 0]), .put 5 (.v false [.p 5 0]), .put 6 (.v false [.d .bool false]), .put 7 (.v false [.p 7 0]), .put 9 (.v false [.p 9 0]), .put 10 (.v false [.p 10 0]), .put 11 (.v false [.d (.int .i64) (x.1 : Int)])])
    (fun x => [.put 9 (.box 24 [.o 91]), .put 91 (.row 50 tHk x.2), .put 2 (.box 24 [.d (.slice tHk) p]), .put 3 (.box 24 [.d (.slice tHk) q]), .put 4 (.box 24 [.nl]), .put 5 (.box 24 [.nl]), .put 7 (.box 27 [.d (.int .i64) 0, .d (.int .i64) 0]), .put 10 (.box 24 [.nl])])
    (fun x => x.1 ≤ q.length ∧ x.2 = (q.take x.1).map (shiftH (newR 0 p) (-1)) ∧ noT p q x.1) (fun x => q.length - x.1) (0, []) ⟨Nat.zero_le _, rfl, noT0⟩ ?_ ?_
  · refine (Wk.nilbox 9 0 91 50 tHk (T := 24) (cs := [.nl]) rfl rfl rfl).trans ?_
    (refine Wk.keep ?_ ?_ <;> repeat' (first | exact True.intro | refine And.intro rfl ?_ | refine And.intro (congrArg (fun z : Int => AV.v false [Lf.d (.int .i64) z]) (by first | omega | (simp only [Int.natCast_add, List.length_cons, List.length_append, List.length_nil]; omega))) ?_ | refine And.intro ?_ ?_))
  rintro ⟨j, M⟩ ⟨hj, hM, hT⟩
  dsimp only at hj hM hT ⊢
  replace hT := Lib.hid hT
  have hMl : M.length = j := by rw [hM, List.length_map, List.length_take]; omega
  by_cases hjl : j < q.length
  · have hgq := getD_at (a := q) tHk.dflt hjl
    have hoq := oq.out q[j] (List.getElem_mem hjl)
    have hst := shift_take (l := newR 0 p) (s := -1) hjl
    have hTn := @noT_next p q j hT.out hjl
    have hTm := fun i hi => @touch_meet p q i j hi hjl
    rw [← hgq] at hoq hst hTn
    rw [← hM] at hst
    have hTm : ∀ i, i < p.length → touch ((newR 0 p).getD i (0, 0, 0)) (rgOld (q.getD ((j : Int)).toNat tHk.dflt)) = true → meet (newR 0 p) (oldR q) = true := by rw [hgq]; exact hTm
    have hoq' := hoq
    obtain ⟨q1, q2, q3, q4⟩ := hoq'
    have noTi0 : noTi p (rgOld (q.getD ((j : Int)).toNat tHk.dflt)) 0 := fun x hx => by simp at hx
    replace hgq := Lib.hid hgq
    replace hoq := Lib.hid hoq
    replace hst := Lib.hid hst
    replace hTn := Lib.hid hTn
    replace hTm := Lib.hid hTm
    replace hM := Lib.hid hM
    replace noTi0 := Lib.hid noTi0
    (repeat' (first | (with_reducible refine Step.mk True.intro ?_) | (with_reducible refine Step.mk ?_ ?_; focus (((try simp only [true_and, and_true, and_self, kmin, kmax, decide_eq_true_eq, decide_eq_false_iff_not, castD_self, castL_self, List.length_cons, List.length_nil, List.length_append, Int.natCast_add] at *) <;> omega))) | (with_reducible refine Step.mk ?_ ?_) | (with_reducible refine Way.t1 ?_) | (with_reducible refine Way.f1 ?_) | ((with_reducible refine Way.dec (fun _ => ?_) (fun _ => ?_)) <;> try (exfalso; omega)) | (with_reducible refine Way.nt ?_) | (with_reducible refine Way.mk (fun _ => ?_) (fun _ => ?_)) | (with_reducible refine Drawn.mk (by kernel_rfl) ?_) | (refine Run.mk ?_)))
    refine loop_by (X := Nat × Int) (fun x => [.put 2 (.v false [.p 2 0]), .put 3 (.v false [.p 3 0]), .put 4 (.v false [.p 4 0]), .put 5 (.v false [.p 5 0]), .put 6 (.v false [.d .bool false]), .put 7 (.v false [.p 7 0]), .put 9 (.v false [.p 9 0]), .put 10 (.v false [.p 10 0]), .put 11 (.v false [.d (.int .i64) (j : Int)]), .put 12 (.v false [.d (.int .i64) x.2]), .put 13 (.v false [.d (.int .i64) (x.1 : Int)])])
      (fun _ => [.put 9 (.box 24 [.o 91]), .put 91 (.row 50 tHk M), .put 2 (.box 24 [.d (.slice tHk) p]), .put 3 (.box 24 [.d (.slice tHk) q]), .put 4 (.box 24 [.nl]), .put 5 (.box 24 [.nl]), .put 7 (.box 27 [.d (.int .i64) 0, .d (.int .i64) 0]), .put 10 (.box 24 [.nl])])
      (fun x => x.1 ≤ p.length ∧ x.2 = -(dl ((newR 0 p).take x.1) (q.getD ((j : Int)).toNat tHk.dflt).1) ∧ noTi p (rgOld (q.getD ((j : Int)).toNat tHk.dflt)) x.1) (fun x => p.length - x.1) (0, 0) ⟨Nat.zero_le _, rfl, noTi0.out⟩ ?_ ?_
    · (refine Wk.keep ?_ ?_ <;> repeat' (first | exact True.intro | refine And.intro rfl ?_ | refine And.intro (congrArg (fun z : Int => AV.v false [Lf.d (.int .i64) z]) (by first | omega | (simp only [Int.natCast_add, List.length_cons, List.length_append, List.length_nil]; omega))) ?_ | refine And.intro ?_ ?_))
    rintro ⟨i, n⟩ ⟨hi, hn, hTi⟩
    dsimp only at hi hn hTi ⊢
    have bd := hbd.out (q.getD ((j : Int)).toNat tHk.dflt).1 ((newR 0 p).take i) fun x hx => hng.out x (List.mem_of_mem_take hx)
    rw [List.length_take, hnl, Nat.min_eq_left hi] at bd
    by_cases hil : i < p.length
    · have hgp := getD_at (a := p) tHk.dflt hil
      have hop := op.out p[i] (List.getElem_mem hil)
      have hil' : i < (newR 0 p).length := by rw [hnl]; exact hil
      have hR : (newR 0 p).getD ((i : Int)).toNat (0, 0, 0) = (newR 0 p)[i] := getD_at (a := newR 0 p) (0, 0, 0) hil'
      have hR2 : ((newR 0 p).getD ((i : Int)).toNat (0, 0, 0)).2.2 = hkGrow p[i] := by rw [hR, newR_at p 0 i hil hil']; rfl
      have hdt := dl_take (newR 0 p) (q.getD ((j : Int)).toNat tHk.dflt).1 i hil'
      rw [← hR, hR2] at hdt
      rw [← hgp] at hop hdt
      have gb : -120 ≤ hkGrow (p.getD ((i : Int)).toNat tHk.dflt) ∧ hkGrow (p.getD ((i : Int)).toNat tHk.dflt) ≤ 120 := by obtain ⟨o1, o2, o3, o4⟩ := hop; unfold hkGrow; omega
      have hnx := @noTi_next p (rgOld (q.getD ((j : Int)).toNat tHk.dflt)) i hTi hil
      replace hnx := Lib.hid hnx
      replace hTi := Lib.hid hTi
      replace hgp := Lib.hid hgp
      replace hop := Lib.hid hop
      replace hdt := Lib.hid hdt
      replace hn := Lib.hid hn
      clear hR hR2
      have hnb : -16000 ≤ n ∧ n ≤ 16000 := by have := hn.out; omega
      (repeat' (first | (with_reducible refine Step.mk True.intro ?_) | (with_reducible refine Step.mk ?_ ?_; focus (((try simp only [true_and, and_true, and_self, kmin, kmax, decide_eq_true_eq, decide_eq_false_iff_not, castD_self, castL_self, List.length_cons, List.length_nil, List.length_append, Int.natCast_add] at *) <;> omega))) | (with_reducible refine Step.mk ?_ ?_) | (with_reducible refine Way.t1 ?_) | (with_reducible refine Way.f1 ?_) | ((with_reducible refine Way.dec (fun _ => ?_) (fun _ => ?_)) <;> try (exfalso; omega)) | (with_reducible refine Way.nt ?_) | (with_reducible refine Way.mk (fun _ => ?_) (fun _ => ?_)) | (with_reducible refine Drawn.mk (by kernel_rfl) ?_) | (refine Run.mk ?_)))
      · exact ⟨⟨op.out, lp⟩, Int.natCast_nonneg i, Int.ofNat_lt.2 hil⟩
      · exact hoq.out.b
      · rename_i h1 h2 h3
        have h2 : (q.getD ((j : Int)).toNat tHk.dflt).1 ≤ ((newR 0 p).getD ((i : Int)).toNat (0, 0, 0)).2.1 := h2
        have h3 : ((newR 0 p).getD ((i : Int)).toNat (0, 0, 0)).1 ≤ hkEnd (q.getD ((j : Int)).toNat tHk.dflt) := h3
        obtain ⟨e1, e2, e3, e4, e5⟩ := v1.out (hTm.out i hil (touch_of (x := ((newR 0 p).getD ((i : Int)).toNat (0, 0, 0))) (y := rgOld (q.getD ((j : Int)).toNat tHk.dflt)) h2 h3))
        refine Ret.mk ?_
        rw [e1, e2, e3, e4, e5]
        exact ⟨⟨rfl, .frz rfl, True.intro⟩, ⟨rfl, .frz rfl, True.intro⟩, ⟨rfl, .same, True.intro⟩, ⟨rfl, .same, .same, True.intro⟩, True.intro⟩
      · rename_i h1 h2 h3 h4
        have h3 : ¬ ((newR 0 p).getD ((i : Int)).toNat (0, 0, 0)).1 ≤ hkEnd (q.getD ((j : Int)).toNat tHk.dflt) := h3
        have h4 : ¬ ((newR 0 p).getD ((i : Int)).toNat (0, 0, 0)).2.1 < (q.getD ((j : Int)).toNat tHk.dflt).1 := h4
        have hd := hdt.out
        rw [if_neg h4, Int.add_zero] at hd
        (refine Back.by ((i + 1, n)) ?_ ?_ ?_; focus (refine Wk.keep ?_ ?_ <;> repeat' (first | exact True.intro | refine And.intro rfl ?_ | refine And.intro (congrArg (fun z : Int => AV.v false [Lf.d (.int .i64) z]) (by first | omega | (simp only [Int.natCast_add, List.length_cons, List.length_append, List.length_nil]; omega))) ?_ | refine And.intro ?_ ?_)))
        · exact ⟨hil, by rw [hd]; exact hn.out, hnx.out (touch_not2 (x := ((newR 0 p).getD ((i : Int)).toNat (0, 0, 0))) (y := rgOld (q.getD ((j : Int)).toNat tHk.dflt)) h3)⟩
        · show p.length - (i + 1) < p.length - i; omega
      · exact hop.out.b
      · show (-9223372036854775808 : Int) ≤ n - hkGrow (p.getD ((i : Int)).toNat tHk.dflt) ∧ n - hkGrow (p.getD ((i : Int)).toNat tHk.dflt) ≤ 9223372036854775807
        omega
      · rename_i h1 h2 h3
        have h2 : ¬ (q.getD ((j : Int)).toNat tHk.dflt).1 ≤ ((newR 0 p).getD ((i : Int)).toNat (0, 0, 0)).2.1 := h2
        have h3 : ((newR 0 p).getD ((i : Int)).toNat (0, 0, 0)).2.1 < (q.getD ((j : Int)).toNat tHk.dflt).1 := h3
        have hd := hdt.out
        rw [if_pos h3] at hd
        (apply Back.by ((i + 1, _)); focus (refine Wk.keep ?_ ?_ <;> repeat' (first | exact True.intro | refine And.intro rfl ?_ | refine And.intro (congrArg (fun z : Int => AV.v false [Lf.d (.int .i64) z]) (by first | omega | (simp only [Int.natCast_add, List.length_cons, List.length_append, List.length_nil]; omega))) ?_ | refine And.intro ?_ ?_)))
        · refine ⟨hil, ?_, hnx.out (touch_not1 (x := ((newR 0 p).getD ((i : Int)).toNat (0, 0, 0))) (y := rgOld (q.getD ((j : Int)).toNat tHk.dflt)) h2)⟩
          show n - hkGrow (p.getD ((i : Int)).toNat tHk.dflt) = _
          rw [hd, hn.out]
          omega
        · show p.length - (i + 1) < p.length - i; omega
    · obtain rfl : i = p.length := by omega
      rw [List.take_of_length_le (by rw [hnl]; exact Nat.le_refl _)] at hn bd
      have hnb : -500000 ≤ n ∧ n ≤ 500000 := by omega
      replace hTi := Lib.hid hTi
      replace hn := Lib.hid hn
      (repeat' (first | (with_reducible refine Step.mk True.intro ?_) | (with_reducible refine Step.mk ?_ ?_; focus (((try simp only [true_and, and_true, and_self, kmin, kmax, decide_eq_true_eq, decide_eq_false_iff_not, castD_self, castL_self, List.length_cons, List.length_nil, List.length_append, Int.natCast_add] at *) <;> omega))) | (with_reducible refine Step.mk ?_ ?_) | (with_reducible refine Way.t1 ?_) | (with_reducible refine Way.f1 ?_) | ((with_reducible refine Way.dec (fun _ => ?_) (fun _ => ?_)) <;> try (exfalso; omega)) | (with_reducible refine Way.nt ?_) | (with_reducible refine Way.mk (fun _ => ?_) (fun _ => ?_)) | (with_reducible refine Drawn.mk (by kernel_rfl) ?_) | (refine Run.mk ?_)))
      · exact ⟨hoq.out, hnb.1, hnb.2⟩
      · (apply Back.by ((j + 1, _)); focus (refine Wk.ren [(91, 95)] rfl ?_ ?_ <;> repeat' (first | exact True.intro | refine And.intro rfl ?_ | refine And.intro (congrArg (fun z : Int => AV.v false [Lf.d (.int .i64) z]) (by first | omega | (simp only [Int.natCast_add, List.length_cons, List.length_append, List.length_nil]; omega))) ?_ | refine And.intro ?_ ?_)))
        · refine ⟨hjl, ?_, hTn.out hTi.out⟩
          rw [hst.out]
          show M ++ [((q.getD ((j : Int)).toNat tHk.dflt).1 + n, (q.getD ((j : Int)).toNat tHk.dflt).2)] = M ++ [((q.getD ((j : Int)).toNat tHk.dflt).1 + -1 * dl (newR 0 p) (q.getD ((j : Int)).toNat tHk.dflt).1, (q.getD ((j : Int)).toNat tHk.dflt).2)]
          rw [hn.out]
          congr 4
          omega
        · show q.length - (j + 1) < q.length - j; omega
  · rw [List.take_of_length_le (by omega)] at hM
    have hN : M = cmFirst p q := hM
    have hjq : j = q.length := by omega
    have hmeet := noT_meet (hjq ▸ hT.out)
    have hMb : ∀ x ∈ M, HkB x := by
      intro x hx
      rw [hM] at hx
      obtain ⟨k, hk, rfl⟩ := List.mem_map.1 hx
      exact shiftH_b hng.out (by rw [hnl]; exact lp) (.inr rfl) (oq.out k hk)
    have hMl2 : M.length ≤ 130 := by omega
    have hgr := oldR_gr hMb
    have hol := oldR_len' M
    clear hM hT hj hMl hjq
    generalize M = N at hN hMb hMl2 hgr hol
    replace hN := Lib.hid hN
    replace hMb := Lib.hid hMb
    replace hgr := Lib.hid hgr
    replace hmeet := Lib.hid hmeet
    (repeat' (first | (with_reducible refine Step.mk True.intro ?_) | (with_reducible refine Step.mk ?_ ?_; focus (((try simp only [true_and, and_true, and_self, kmin, kmax, decide_eq_true_eq, decide_eq_false_iff_not, castD_self, castL_self, List.length_cons, List.length_nil, List.length_append, Int.natCast_add] at *) <;> omega))) | (with_reducible refine Step.mk ?_ ?_) | (with_reducible refine Way.t1 ?_) | (with_reducible refine Way.f1 ?_) | ((with_reducible refine Way.dec (fun _ => ?_) (fun _ => ?_)) <;> try (exfalso; omega)) | (with_reducible refine Way.nt ?_) | (with_reducible refine Way.mk (fun _ => ?_) (fun _ => ?_)) | (with_reducible refine Drawn.mk (by kernel_rfl) ?_) | (refine Run.mk ?_)))
    refine loop_by (X := Nat × List Hk) (fun x => [.put 2 (.v false [.p 2 0]), .put 3 (.v false [.p 3 0]), .put 4 (.v false [.p 4 0]), .put 5 (.v false [.p 5 0]), .put 6 (.v false [.d .bool false]), .put 7 (.v false [.p 7 0]), .put 9 (.v false [.p 9 0]), .put 10 (.v false [.p 10 0]), .put 16 (.v false [.d (.int .i64) (x.1 : Int)])])
      (fun x => [.put 10 (.box 24 [.o 92]), .put 92 (.row 50 tHk x.2), .put 9 (.box 24 [.o 91]), .put 91 (.row 50 tHk N), .put 2 (.box 24 [.d (.slice tHk) p]), .put 3 (.box 24 [.d (.slice tHk) q]), .put 4 (.box 24 [.nl]), .put 5 (.box 24 [.nl]), .put 7 (.box 27 [.d (.int .i64) 0, .d (.int .i64) 0])])
      (fun x => x.1 ≤ p.length ∧ x.2 = (p.take x.1).map (shiftH (oldR N) 1)) (fun x => p.length - x.1) (0, []) ⟨Nat.zero_le _, rfl⟩ ?_ ?_
    · refine (Wk.nilbox 10 0 92 50 tHk (T := 24) (cs := [.nl]) rfl rfl rfl).trans ?_
      (refine Wk.keep ?_ ?_ <;> repeat' (first | exact True.intro | refine And.intro rfl ?_ | refine And.intro (congrArg (fun z : Int => AV.v false [Lf.d (.int .i64) z]) (by first | omega | (simp only [Int.natCast_add, List.length_cons, List.length_append, List.length_nil]; omega))) ?_ | refine And.intro ?_ ?_))
    rintro ⟨i, M⟩ ⟨hi, hM⟩
    dsimp only at hi hM ⊢
    have hMl : M.length = i := by rw [hM, List.length_map, List.length_take]; omega
    by_cases hil : i < p.length
    · have hgp := getD_at (a := p) tHk.dflt hil
      have hop := op.out p[i] (List.getElem_mem hil)
      have hst := shift_take (l := oldR N) (s := 1) hil
      rw [← hgp] at hop hst
      rw [← hM] at hst
      have hop' := hop
      obtain ⟨o1, o2, o3, o4⟩ := hop'
      replace hgp := Lib.hid hgp
      replace hop := Lib.hid hop
      replace hst := Lib.hid hst
      replace hM := Lib.hid hM
      (repeat' (first | (with_reducible refine Step.mk True.intro ?_) | (with_reducible refine Step.mk ?_ ?_; focus (((try simp only [true_and, and_true, and_self, kmin, kmax, decide_eq_true_eq, decide_eq_false_iff_not, castD_self, castL_self, List.length_cons, List.length_nil, List.length_append, Int.natCast_add] at *) <;> omega))) | (with_reducible refine Step.mk ?_ ?_) | (with_reducible refine Way.t1 ?_) | (with_reducible refine Way.f1 ?_) | ((with_reducible refine Way.dec (fun _ => ?_) (fun _ => ?_)) <;> try (exfalso; omega)) | (with_reducible refine Way.nt ?_) | (with_reducible refine Way.mk (fun _ => ?_) (fun _ => ?_)) | (with_reducible refine Drawn.mk (by kernel_rfl) ?_) | (refine Run.mk ?_)))
      refine loop_by (X := Nat × Int) (fun x => [.put 2 (.v false [.p 2 0]), .put 3 (.v false [.p 3 0]), .put 4 (.v false [.p 4 0]), .put 5 (.v false [.p 5 0]), .put 6 (.v false [.d .bool false]), .put 7 (.v false [.p 7 0]), .put 9 (.v false [.p 9 0]), .put 10 (.v false [.p 10 0]), .put 16 (.v false [.d (.int .i64) (i : Int)]), .put 17 (.v false [.d (.int .i64) x.2]), .put 18 (.v false [.d (.int .i64) (x.1 : Int)])])
        (fun _ => [.put 10 (.box 24 [.o 92]), .put 92 (.row 50 tHk M), .put 9 (.box 24 [.o 91]), .put 91 (.row 50 tHk N), .put 2 (.box 24 [.d (.slice tHk) p]), .put 3 (.box 24 [.d (.slice tHk) q]), .put 4 (.box 24 [.nl]), .put 5 (.box 24 [.nl]), .put 7 (.box 27 [.d (.int .i64) 0, .d (.int .i64) 0])])
        (fun x => x.1 ≤ N.length ∧ x.2 = dl ((oldR N).take x.1) (p.getD ((i : Int)).toNat tHk.dflt).1) (fun x => N.length - x.1) (0, 0) ⟨Nat.zero_le _, rfl⟩ ?_ ?_
      · (refine Wk.keep ?_ ?_ <;> repeat' (first | exact True.intro | refine And.intro rfl ?_ | refine And.intro (congrArg (fun z : Int => AV.v false [Lf.d (.int .i64) z]) (by first | omega | (simp only [Int.natCast_add, List.length_cons, List.length_append, List.length_nil]; omega))) ?_ | refine And.intro ?_ ?_))
      rintro ⟨m, n⟩ ⟨hm, hn⟩
      dsimp only at hm hn ⊢
      have bd := hbd.out (p.getD ((i : Int)).toNat tHk.dflt).1 ((oldR N).take m) fun x hx => hgr.out x (List.mem_of_mem_take hx)
      rw [List.length_take, hol, Nat.min_eq_left hm] at bd
      by_cases hml : m < N.length
      · have hgn := getD_at (a := N) tHk.dflt hml
        have hob := hMb.out N[m] (List.getElem_mem hml)
        have hml' : m < (oldR N).length := by rw [hol]; exact hml
        have hdt := dl_take (oldR N) (p.getD ((i : Int)).toNat tHk.dflt).1 m hml'
        rw [oldR_at N m hml hml'] at hdt
        rw [← hgn] at hdt hob
        have gb : -120 ≤ hkGrow (N.getD ((m : Int)).toNat tHk.dflt) ∧ hkGrow (N.getD ((m : Int)).toNat tHk.dflt) ≤ 120 := by obtain ⟨b1, b2, b3, b4⟩ := hob; unfold hkGrow; omega
        have hnb : -16000 ≤ n ∧ n ≤ 16000 := by omega
        replace hgn := Lib.hid hgn
        replace hob := Lib.hid hob
        replace hdt := Lib.hid hdt
        replace hn := Lib.hid hn
        (repeat' (first | (with_reducible refine Step.mk True.intro ?_) | (with_reducible refine Step.mk ?_ ?_; focus (((try simp only [true_and, and_true, and_self, kmin, kmax, decide_eq_true_eq, decide_eq_false_iff_not, castD_self, castL_self, List.length_cons, List.length_nil, List.length_append, Int.natCast_add] at *) <;> omega))) | (with_reducible refine Step.mk ?_ ?_) | (with_reducible refine Way.t1 ?_) | (with_reducible refine Way.f1 ?_) | ((with_reducible refine Way.dec (fun _ => ?_) (fun _ => ?_)) <;> try (exfalso; omega)) | (with_reducible refine Way.nt ?_) | (with_reducible refine Way.mk (fun _ => ?_) (fun _ => ?_)) | (with_reducible refine Drawn.mk (by kernel_rfl) ?_) | (refine Run.mk ?_)))
        · exact hob.out
        · exact hob.out
        · show (-9223372036854775808 : Int) ≤ n + hkGrow (N.getD ((m : Int)).toNat tHk.dflt) ∧ n + hkGrow (N.getD ((m : Int)).toNat tHk.dflt) ≤ 9223372036854775807
          omega
        · rename_i h1 h2
          have h2 : hkEnd (N.getD ((m : Int)).toNat tHk.dflt) < (p.getD ((i : Int)).toNat tHk.dflt).1 := h2
          have hd := hdt.out
          rw [if_pos (show (rgOld (N.getD ((m : Int)).toNat tHk.dflt)).2.1 < (p.getD ((i : Int)).toNat tHk.dflt).1 from h2)] at hd
          (apply Back.by ((m + 1, _)); focus (refine Wk.keep ?_ ?_ <;> repeat' (first | exact True.intro | refine And.intro rfl ?_ | refine And.intro (congrArg (fun z : Int => AV.v false [Lf.d (.int .i64) z]) (by first | omega | (simp only [Int.natCast_add, List.length_cons, List.length_append, List.length_nil]; omega))) ?_ | refine And.intro ?_ ?_)))
          · refine ⟨hml, ?_⟩
            show n + hkGrow (N.getD ((m : Int)).toNat tHk.dflt) = _
            rw [hd, hn.out]
            rfl
          · show N.length - (m + 1) < N.length - m; omega
        · rename_i h1 h2
          have h2 : ¬ hkEnd (N.getD ((m : Int)).toNat tHk.dflt) < (p.getD ((i : Int)).toNat tHk.dflt).1 := h2
          have hd := hdt.out
          rw [if_neg (show ¬ (rgOld (N.getD ((m : Int)).toNat tHk.dflt)).2.1 < (p.getD ((i : Int)).toNat tHk.dflt).1 from h2), Int.add_zero] at hd
          (refine Back.by ((m + 1, n)) ?_ ?_ ?_; focus (refine Wk.keep ?_ ?_ <;> repeat' (first | exact True.intro | refine And.intro rfl ?_ | refine And.intro (congrArg (fun z : Int => AV.v false [Lf.d (.int .i64) z]) (by first | omega | (simp only [Int.natCast_add, List.length_cons, List.length_append, List.length_nil]; omega))) ?_ | refine And.intro ?_ ?_)))
          · exact ⟨hml, by rw [hd]; exact hn.out⟩
          · show N.length - (m + 1) < N.length - m; omega
      · obtain rfl : m = N.length := by omega
        rw [List.take_of_length_le (by rw [hol]; exact Nat.le_refl _)] at hn bd
        have hnb : -500000 ≤ n ∧ n ≤ 500000 := by omega
        replace hn := Lib.hid hn
        (repeat' (first | (with_reducible refine Step.mk True.intro ?_) | (with_reducible refine Step.mk ?_ ?_; focus (((try simp only [true_and, and_true, and_self, kmin, kmax, decide_eq_true_eq, decide_eq_false_iff_not, castD_self, castL_self, List.length_cons, List.length_nil, List.length_append, Int.natCast_add] at *) <;> omega))) | (with_reducible refine Step.mk ?_ ?_) | (with_reducible refine Way.t1 ?_) | (with_reducible refine Way.f1 ?_) | ((with_reducible refine Way.dec (fun _ => ?_) (fun _ => ?_)) <;> try (exfalso; omega)) | (with_reducible refine Way.nt ?_) | (with_reducible refine Way.mk (fun _ => ?_) (fun _ => ?_)) | (with_reducible refine Drawn.mk (by kernel_rfl) ?_) | (refine Run.mk ?_)))
        · exact ⟨hop.out, hnb.1, hnb.2⟩
        · (apply Back.by ((i + 1, _)); focus (refine Wk.ren [(92, 142)] rfl ?_ ?_ <;> repeat' (first | exact True.intro | refine And.intro rfl ?_ | refine And.intro (congrArg (fun z : Int => AV.v false [Lf.d (.int .i64) z]) (by first | omega | (simp only [Int.natCast_add, List.length_cons, List.length_append, List.length_nil]; omega))) ?_ | refine And.intro ?_ ?_)))
          · refine ⟨hil, ?_⟩
            rw [hst.out]
            show M ++ [((p.getD ((i : Int)).toNat tHk.dflt).1 + n, (p.getD ((i : Int)).toNat tHk.dflt).2)] = M ++ [((p.getD ((i : Int)).toNat tHk.dflt).1 + 1 * dl (oldR N) (p.getD ((i : Int)).toNat tHk.dflt).1, (p.getD ((i : Int)).toNat tHk.dflt).2)]
            rw [hn.out]
            congr 4
            omega
          · show p.length - (i + 1) < p.length - i; omega
    · rw [List.take_of_length_le (by omega)] at hM
      have hS : M = cmSecond p q := by rw [hM, hN.out]; rfl
      replace hM := Lib.hid hM
      replace hS := Lib.hid hS
      (repeat' (first | (with_reducible refine Step.mk True.intro ?_) | (with_reducible refine Step.mk ?_ ?_; focus (((try simp only [true_and, and_true, and_self, kmin, kmax, decide_eq_true_eq, decide_eq_false_iff_not, castD_self, castL_self, List.length_cons, List.length_nil, List.length_append, Int.natCast_add] at *) <;> omega))) | (with_reducible refine Step.mk ?_ ?_) | (with_reducible refine Way.t1 ?_) | (with_reducible refine Way.f1 ?_) | ((with_reducible refine Way.dec (fun _ => ?_) (fun _ => ?_)) <;> try (exfalso; omega)) | (with_reducible refine Way.nt ?_) | (with_reducible refine Way.mk (fun _ => ?_) (fun _ => ?_)) | (with_reducible refine Drawn.mk (by kernel_rfl) ?_) | (refine Run.mk ?_)))
      · rename_i h1 h2 h3
        have h2 : pC N = 0 := h2
        have h3 : pC M = 0 := h3
        rw [hN.out] at h2
        rw [hS.out] at h3
        obtain ⟨e1, e2, e3, e4, e5⟩ := v3.out hmeet.out h2 h3
        refine Ret.mk ?_
        rw [e1, e2, e3, e4, e5, ← hN.out, ← hS.out]
        exact ⟨⟨rfl, .frz rfl, True.intro⟩, ⟨rfl, .frz rfl, True.intro⟩, ⟨rfl, .same, True.intro⟩, ⟨rfl, .same, .same, True.intro⟩, True.intro⟩
      · rename_i h1 h2 h3
        have h3 : ¬ pC M = 0 := h3
        rw [hS.out] at h3
        obtain ⟨e1, e2, e3, e4, e5⟩ := v2.out hmeet.out (fun h => h3 h.2)
        refine Ret.mk ?_
        rw [e1, e2, e3, e4, e5]
        exact ⟨⟨rfl, .frz rfl, True.intro⟩, ⟨rfl, .frz rfl, True.intro⟩, ⟨rfl, .same, True.intro⟩, ⟨rfl, .same, .same, True.intro⟩, True.intro⟩
      · rename_i h1 h2
        have h2 : ¬ pC N = 0 := h2
        rw [hN.out] at h2
        obtain ⟨e1, e2, e3, e4, e5⟩ := v2.out hmeet.out (fun h => h2 h.1)
        refine Ret.mk ?_
        rw [e1, e2, e3, e4, e5]
        exact ⟨⟨rfl, .frz rfl, True.intro⟩, ⟨rfl, .frz rfl, True.intro⟩, ⟨rfl, .same, True.intro⟩, ⟨rfl, .same, .same, True.intro⟩, True.intro⟩
end Go.Proofs.Ytmbeokkaiblblaa
