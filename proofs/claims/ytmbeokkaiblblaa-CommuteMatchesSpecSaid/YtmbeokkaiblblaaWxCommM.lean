/- The walk of the reference's Rebase; the law CommuteMatchesSpec. -/
import Derived.Test.YtmbeokkaiblblaaWxRefCm2
import Derived.Test.YtmbeokkaiblblaaWxCommL
namespace Go.Proofs.Ytmbeokkaiblblaa
open Go.RowKit
set_option maxRecDepth 10000
set_option linter.unusedSimpArgs false

/-- no hunk of `o` ahead of `i` touches -/
def noOi (o : List Hk) (y : Rg) (i : Nat) : Prop := ∀ x ∈ oldR (o.take i), touch y x = false
def noO (p o : List Hk) (j : Nat) : Prop := ∀ y ∈ oldR (p.take j), ∀ x ∈ oldR o, touch y x = false
theorem noOi_next {o : List Hk} {y : Rg} {i : Nat} (h : noOi o y i) (hi : i < o.length) (ht : touch y (rgOld o[i]) = false) : noOi o y (i + 1) := by
  intro x hx
  rw [List.take_add_one, List.getElem?_eq_getElem hi, Option.toList_some] at hx
  unfold oldR at hx
  rw [List.map_append] at hx
  rcases List.mem_append.1 hx with hx | hx
  · exact h x hx
  · have : x = rgOld o[i] := by simpa using hx
    rw [this]; exact ht
theorem noO_next {p o : List Hk} {j : Nat} (h : noO p o j) (hj : j < p.length) (hi : noOi o (rgOld p[j]) o.length) : noO p o (j + 1) := by
  intro y hy x hx
  rw [List.take_add_one, List.getElem?_eq_getElem hj, Option.toList_some] at hy
  unfold oldR at hy
  rw [List.map_append] at hy
  rcases List.mem_append.1 hy with hy | hy
  · exact h y hy x hx
  · have : y = rgOld p[j] := by simpa using hy
    rw [this]
    exact hi x (by rw [List.take_of_length_le (Nat.le_refl _)]; exact hx)
theorem touch_meet2 {p o : List Hk} {i j : Nat} (hi : i < o.length) (hj : j < p.length) (ht : touch (rgOld p[j]) (rgOld o[i]) = true) : meet (oldR p) (oldR o) = true := by
  cases hm : meet (oldR p) (oldR o) with
  | true => rfl
  | false =>
    have := meet_iff.1 hm (rgOld p[j]) (List.mem_map.2 ⟨p[j], List.getElem_mem hj, rfl⟩) (rgOld o[i]) (List.mem_map.2 ⟨o[i], List.getElem_mem hi, rfl⟩)
    rw [this] at ht
    cases ht
theorem noO_meet {p o : List Hk} (h : noO p o p.length) : meet (oldR p) (oldR o) = false := by
  refine meet_iff.2 fun y hy x hx => h y ?_ x hx
  rw [List.take_of_length_le (Nat.le_refl _)]
  exact hy
theorem rb_vals {p q : List Hk} (h1 : pC p = 0) (h2 : pC q = 0) : (meet (oldR p) (oldR q) = true → rbP p q = [] ∧ rbOk p q = false ∧ rbC p q = 0 ∧ rbI p q = 0) ∧
    (meet (oldR p) (oldR q) = false → ¬ pC (rbR p q) = 0 → rbP p q = [] ∧ rbOk p q = false ∧ rbC p q = 10 ∧ rbI p q = -1) ∧
    (meet (oldR p) (oldR q) = false → pC (rbR p q) = 0 → rbP p q = rbR p q ∧ rbOk p q = true ∧ rbC p q = 0 ∧ rbI p q = 0) := by
  refine ⟨fun h3 => rb_meet h1 h2 h3, fun h3 h4 => ?_, fun h3 h4 => ?_⟩
  · obtain ⟨e1, e2, e3, e4⟩ := rb_rest h1 h2 h3
    rw [if_neg h4] at e1 e3 e4
    rw [decide_eq_false h4] at e2
    exact ⟨e1, e2, e3, e4⟩
  · obtain ⟨e1, e2, e3, e4⟩ := rb_rest h1 h2 h3
    rw [if_pos h4] at e1 e3 e4
    rw [decide_eq_true h4] at e2
    exact ⟨e1, e2, e3, e4⟩
theorem rb_flt {p q : List Hk} (h : ¬ rpC p q = 0) : rbP p q = [] ∧ rbOk p q = false ∧ rbC p q = rpC p q ∧ rbI p q = rpI p q :=
  rb_fault fun ⟨a, b⟩ => h (by unfold rpC; rw [if_neg (by rw [a]; decide)]; exact b)
def sp_RRebase : SpecF := pureSp false [tPat, tPat] (fun _ => True) (fun (p', q', _) => .tu [(true, [.d (.slice tHk) (rbP p' q')]), (false, [.d .bool (rbOk p' q')]), (true, [.d (.int .i64) (rbC p' q'), .d (.int .i64) (rbI p' q')])])
theorem RRebase_sp : SpFact 26 sp_RRebase := by
  refine ⟨⟨Try.f26, rfl, rfl, rfl, pureSp_okF (env_fine (sp := [(52, sp_RPair), (37, sp_REnd), (42, sp_RGrow), (54, sp_moved'), (18, sp_PF), (35, sp_At)]) (eq := [])
    ⟨RPair_sp, REnd_sp, RGrow_sp, rmoved_sp, PF_sp, At_sp, True.intro⟩ True.intro) rfl (fun ⟨_, _, _⟩ _ => rfl) ?_⟩, pureSp_loc _ _ _ _⟩
  rintro ⟨p, q, u⟩ - -
  change List Hk at p q
  (refine fnM_of rfl rfl rfl rfl ?_; dsimp only [params, argAV, Ty.leaves, Ty.isSt])
  (repeat' (first | (with_reducible refine Step.mk True.intro ?_) | (with_reducible refine Step.mk ?_ ?_; focus (((try simp only [true_and, and_true, and_self, kmin, kmax, decide_eq_true_eq, decide_eq_false_iff_not, castD_self, castL_self, List.length_cons, List.length_nil, List.length_append, Int.natCast_add] at *) <;> omega))) | (with_reducible refine Step.mk ?_ ?_) | (with_reducible refine Way.t1 ?_) | (with_reducible refine Way.f1 ?_) | ((with_reducible refine Way.dec (fun _ => ?_) (fun _ => ?_)) <;> try (exfalso; omega)) | (with_reducible refine Way.nt ?_) | (with_reducible refine Way.mk (fun _ => ?_) (fun _ => ?_)) | (with_reducible refine Drawn.mk (by kernel_rfl) ?_) | (refine Run.mk ?_)))
  case' refine_2 =>
    rename_i h0
    have h0 : ¬ rpC p q = 0 := h0
    obtain ⟨e1, e3, e4, e5⟩ := rb_flt h0
    refine Ret.mk ?_
    rw [e1, e3, e4, e5]
    exact ⟨⟨rfl, .frz rfl, True.intro⟩, ⟨rfl, .same, True.intro⟩, ⟨rfl, .same, .same, True.intro⟩, True.intro⟩
  rename_i h0
  have h0 : rpC p q = 0 := h0
  obtain ⟨hp, hq⟩ := rp_zero h0
  obtain ⟨lp, op⟩ := pC_ok hp
  obtain ⟨lq, oq⟩ := pC_ok hq
  obtain ⟨v1, v2, v3⟩ := rb_vals hp hq
  have hng := oldR_gr fun x hx => (oq x hx).b
  have hnl := oldR_len' q
  have hbd := dl_bd'
  have noT0 : noO p q 0 := fun x hx => by simp [oldR] at hx
  replace v1 := Lib.hid v1
  replace v2 := Lib.hid v2
  replace v3 := Lib.hid v3
  replace op := Lib.hid op
  replace oq := Lib.hid oq
  replace hng := Lib.hid hng
  replace hbd := Lib.hid hbd
  replace hp := Lib.hid hp
  replace hq := Lib.hid hq
  clear h0
  refine loop_by (X := Nat × List Hk) (fun x => [.put 2 (.v false [.p 2 0]), .put 3 (.v false [.p 3 0]), .put 4 (.v false [.p 4 0]), .put 5 (.v false [.d .bool false]), .put 6 (.v false [.p 6 0]), .put 8 (.v false [.p 8 0]), .put 9 (.v false [.d (.int .i64) (x.1 : Int)])])
    (fun x => [.put 8 (.box 24 [.o 91]), .put 91 (.row 50 tHk x.2), .put 2 (.box 24 [.d (.slice tHk) p]), .put 3 (.box 24 [.d (.slice tHk) q]), .put 4 (.box 24 [.nl]), .put 6 (.box 27 [.d (.int .i64) 0, .d (.int .i64) 0])])
    (fun x => x.1 ≤ p.length ∧ x.2 = (p.take x.1).map (shiftH (oldR q) 1) ∧ noO p q x.1) (fun x => p.length - x.1) (0, []) ⟨Nat.zero_le _, rfl, noT0⟩ ?_ ?_
  · refine (Wk.nilbox 8 0 91 50 tHk (T := 24) (cs := [.nl]) rfl rfl rfl).trans ?_
    (refine Wk.keep ?_ ?_ <;> repeat' (first | exact True.intro | refine And.intro rfl ?_ | refine And.intro (congrArg (fun z : Int => AV.v false [Lf.d (.int .i64) z]) (by first | omega | (simp only [Int.natCast_add, List.length_cons, List.length_append, List.length_nil]; omega))) ?_ | refine And.intro ?_ ?_))
  rintro ⟨j, M⟩ ⟨hj, hM, hT⟩
  dsimp only at hj hM hT ⊢
  replace hT := Lib.hid hT
  have hMl : M.length = j := by rw [hM, List.length_map, List.length_take]; omega
  by_cases hjl : j < p.length
  · have hgq := getD_at (a := p) tHk.dflt hjl
    have hoq := op.out p[j] (List.getElem_mem hjl)
    have hst := shift_take (l := oldR q) (s := 1) hjl
    have hTn := @noO_next p q j hT.out hjl
    have hTm := fun i hi => @touch_meet2 p q i j hi hjl
    rw [← hgq] at hoq hst hTn
    rw [← hM] at hst
    have hTm : ∀ (i : Nat) (hi : i < q.length), touch (rgOld (p.getD ((j : Int)).toNat tHk.dflt)) (rgOld q[i]) = true → meet (oldR p) (oldR q) = true := by rw [hgq]; exact hTm
    have hoq' := hoq
    obtain ⟨q1, q2, q3, q4⟩ := hoq'
    have noTi0 : noOi q (rgOld (p.getD ((j : Int)).toNat tHk.dflt)) 0 := fun x hx => by simp [oldR] at hx
    replace hgq := Lib.hid hgq
    replace hoq := Lib.hid hoq
    replace hst := Lib.hid hst
    replace hTn := Lib.hid hTn
    replace hTm := Lib.hid hTm
    replace hM := Lib.hid hM
    replace noTi0 := Lib.hid noTi0
    (repeat' (first | (with_reducible refine Step.mk True.intro ?_) | (with_reducible refine Step.mk ?_ ?_; focus (((try simp only [true_and, and_true, and_self, kmin, kmax, decide_eq_true_eq, decide_eq_false_iff_not, castD_self, castL_self, List.length_cons, List.length_nil, List.length_append, Int.natCast_add] at *) <;> omega))) | (with_reducible refine Step.mk ?_ ?_) | (with_reducible refine Way.t1 ?_) | (with_reducible refine Way.f1 ?_) | ((with_reducible refine Way.dec (fun _ => ?_) (fun _ => ?_)) <;> try (exfalso; omega)) | (with_reducible refine Way.nt ?_) | (with_reducible refine Way.mk (fun _ => ?_) (fun _ => ?_)) | (with_reducible refine Drawn.mk (by kernel_rfl) ?_) | (refine Run.mk ?_)))
    refine loop_by (X := Nat × Int) (fun x => [.put 2 (.v false [.p 2 0]), .put 3 (.v false [.p 3 0]), .put 4 (.v false [.p 4 0]), .put 5 (.v false [.d .bool false]), .put 6 (.v false [.p 6 0]), .put 8 (.v false [.p 8 0]), .put 9 (.v false [.d (.int .i64) (j : Int)]), .put 10 (.v false [.d (.int .i64) x.2]), .put 11 (.v false [.d (.int .i64) (x.1 : Int)])])
      (fun _ => [.put 8 (.box 24 [.o 91]), .put 91 (.row 50 tHk M), .put 2 (.box 24 [.d (.slice tHk) p]), .put 3 (.box 24 [.d (.slice tHk) q]), .put 4 (.box 24 [.nl]), .put 6 (.box 27 [.d (.int .i64) 0, .d (.int .i64) 0])])
      (fun x => x.1 ≤ q.length ∧ x.2 = dl ((oldR q).take x.1) (p.getD ((j : Int)).toNat tHk.dflt).1 ∧ noOi q (rgOld (p.getD ((j : Int)).toNat tHk.dflt)) x.1) (fun x => q.length - x.1) (0, 0) ⟨Nat.zero_le _, rfl, noTi0.out⟩ ?_ ?_
    · (refine Wk.keep ?_ ?_ <;> repeat' (first | exact True.intro | refine And.intro rfl ?_ | refine And.intro (congrArg (fun z : Int => AV.v false [Lf.d (.int .i64) z]) (by first | omega | (simp only [Int.natCast_add, List.length_cons, List.length_append, List.length_nil]; omega))) ?_ | refine And.intro ?_ ?_))
    rintro ⟨i, n⟩ ⟨hi, hn, hTi⟩
    dsimp only at hi hn hTi ⊢
    have bd := hbd.out (p.getD ((j : Int)).toNat tHk.dflt).1 ((oldR q).take i) fun x hx => hng.out x (List.mem_of_mem_take hx)
    rw [List.length_take, hnl, Nat.min_eq_left hi] at bd
    by_cases hil : i < q.length
    · have hgp := getD_at (a := q) tHk.dflt hil
      have hop := oq.out q[i] (List.getElem_mem hil)
      have hil' : i < (oldR q).length := by rw [hnl]; exact hil
      have hdt := dl_take (oldR q) (p.getD ((j : Int)).toNat tHk.dflt).1 i hil'
      rw [oldR_at q i hil hil'] at hdt
      have hnx := @noOi_next q (rgOld (p.getD ((j : Int)).toNat tHk.dflt)) i hTi hil
      have hTm := hTm.out i hil
      rw [← hgp] at hop hdt hnx hTm
      have hop' := hop
      obtain ⟨o1, o2, o3, o4⟩ := hop'
      have gb : -120 ≤ hkGrow (q.getD ((i : Int)).toNat tHk.dflt) ∧ hkGrow (q.getD ((i : Int)).toNat tHk.dflt) ≤ 120 := by unfold hkGrow; omega
      have hnb : -16000 ≤ n ∧ n ≤ 16000 := by omega
      replace hnx := Lib.hid hnx
      replace hTm := Lib.hid hTm
      replace hTi := Lib.hid hTi
      replace hgp := Lib.hid hgp
      replace hop := Lib.hid hop
      replace hdt := Lib.hid hdt
      replace hn := Lib.hid hn
      (repeat' (first | (with_reducible refine Step.mk True.intro ?_) | (with_reducible refine Step.mk ?_ ?_; focus (((try simp only [true_and, and_true, and_self, kmin, kmax, decide_eq_true_eq, decide_eq_false_iff_not, castD_self, castL_self, List.length_cons, List.length_nil, List.length_append, Int.natCast_add] at *) <;> omega))) | (with_reducible refine Step.mk ?_ ?_) | (with_reducible refine Way.t1 ?_) | (with_reducible refine Way.f1 ?_) | ((with_reducible refine Way.dec (fun _ => ?_) (fun _ => ?_)) <;> try (exfalso; omega)) | (with_reducible refine Way.nt ?_) | (with_reducible refine Way.mk (fun _ => ?_) (fun _ => ?_)) | (with_reducible refine Drawn.mk (by kernel_rfl) ?_) | (refine Run.mk ?_)))
      · exact hop.out.b
      · exact hoq.out.b
      · rename_i h1 h2 h3
        have h2 : (p.getD ((j : Int)).toNat tHk.dflt).1 ≤ hkEnd (q.getD ((i : Int)).toNat tHk.dflt) := h2
        have h3 : (q.getD ((i : Int)).toNat tHk.dflt).1 ≤ hkEnd (p.getD ((j : Int)).toNat tHk.dflt) := h3
        obtain ⟨e1, e3, e4, e5⟩ := v1.out (hTm.out (touch_of (x := rgOld (p.getD ((j : Int)).toNat tHk.dflt)) (y := rgOld (q.getD ((i : Int)).toNat tHk.dflt)) h3 h2))
        refine Ret.mk ?_
        rw [e1, e3, e4, e5]
        exact ⟨⟨rfl, .frz rfl, True.intro⟩, ⟨rfl, .same, True.intro⟩, ⟨rfl, .same, .same, True.intro⟩, True.intro⟩
      · exact hop.out.b
      · rename_i h1 h2 h3 h4
        have h3 : ¬ (q.getD ((i : Int)).toNat tHk.dflt).1 ≤ hkEnd (p.getD ((j : Int)).toNat tHk.dflt) := h3
        have h4 : ¬ hkEnd (q.getD ((i : Int)).toNat tHk.dflt) < (p.getD ((j : Int)).toNat tHk.dflt).1 := h4
        have hd := hdt.out
        rw [if_neg (show ¬ (rgOld (q.getD ((i : Int)).toNat tHk.dflt)).2.1 < (p.getD ((j : Int)).toNat tHk.dflt).1 from h4), Int.add_zero] at hd
        (refine Back.by ((i + 1, n)) ?_ ?_ ?_; focus (refine Wk.keep ?_ ?_ <;> repeat' (first | exact True.intro | refine And.intro rfl ?_ | refine And.intro (congrArg (fun z : Int => AV.v false [Lf.d (.int .i64) z]) (by first | omega | (simp only [Int.natCast_add, List.length_cons, List.length_append, List.length_nil]; omega))) ?_ | refine And.intro ?_ ?_)))
        · exact ⟨hil, by rw [hd]; exact hn.out, hnx.out (touch_not1 (x := rgOld (p.getD ((j : Int)).toNat tHk.dflt)) (y := rgOld (q.getD ((i : Int)).toNat tHk.dflt)) h3)⟩
        · show q.length - (i + 1) < q.length - i; omega
      · exact hop.out.b
      · exact hop.out.b
      · show (-9223372036854775808 : Int) ≤ n + hkGrow (q.getD ((i : Int)).toNat tHk.dflt) ∧ n + hkGrow (q.getD ((i : Int)).toNat tHk.dflt) ≤ 9223372036854775807
        omega
      · rename_i h1 h2 h3
        have h2 : ¬ (p.getD ((j : Int)).toNat tHk.dflt).1 ≤ hkEnd (q.getD ((i : Int)).toNat tHk.dflt) := h2
        have h3 : hkEnd (q.getD ((i : Int)).toNat tHk.dflt) < (p.getD ((j : Int)).toNat tHk.dflt).1 := h3
        have hd := hdt.out
        rw [if_pos (show (rgOld (q.getD ((i : Int)).toNat tHk.dflt)).2.1 < (p.getD ((j : Int)).toNat tHk.dflt).1 from h3)] at hd
        (apply Back.by ((i + 1, _)); focus (refine Wk.keep ?_ ?_ <;> repeat' (first | exact True.intro | refine And.intro rfl ?_ | refine And.intro (congrArg (fun z : Int => AV.v false [Lf.d (.int .i64) z]) (by first | omega | (simp only [Int.natCast_add, List.length_cons, List.length_append, List.length_nil]; omega))) ?_ | refine And.intro ?_ ?_)))
        · refine ⟨hil, ?_, hnx.out (touch_not2 (x := rgOld (p.getD ((j : Int)).toNat tHk.dflt)) (y := rgOld (q.getD ((i : Int)).toNat tHk.dflt)) h2)⟩
          show n + hkGrow (q.getD ((i : Int)).toNat tHk.dflt) = _
          rw [hd, hn.out]
          rfl
        · show q.length - (i + 1) < q.length - i; omega
    · obtain rfl : i = q.length := by omega
      rw [List.take_of_length_le (by rw [hnl]; exact Nat.le_refl _)] at hn bd
      have hnb : -500000 ≤ n ∧ n ≤ 500000 := by omega
      replace hTi := Lib.hid hTi
      replace hn := Lib.hid hn
      (repeat' (first | (with_reducible refine Step.mk True.intro ?_) | (with_reducible refine Step.mk ?_ ?_; focus (((try simp only [true_and, and_true, and_self, kmin, kmax, decide_eq_true_eq, decide_eq_false_iff_not, castD_self, castL_self, List.length_cons, List.length_nil, List.length_append, Int.natCast_add] at *) <;> omega))) | (with_reducible refine Step.mk ?_ ?_) | (with_reducible refine Way.t1 ?_) | (with_reducible refine Way.f1 ?_) | ((with_reducible refine Way.dec (fun _ => ?_) (fun _ => ?_)) <;> try (exfalso; omega)) | (with_reducible refine Way.nt ?_) | (with_reducible refine Way.mk (fun _ => ?_) (fun _ => ?_)) | (with_reducible refine Drawn.mk (by kernel_rfl) ?_) | (refine Run.mk ?_)))
      · exact ⟨hoq.out, hnb.1, hnb.2⟩
      · (apply Back.by ((j + 1, _)); focus (refine Wk.ren [(91, 85)] rfl ?_ ?_ <;> repeat' (first | exact True.intro | refine And.intro rfl ?_ | refine And.intro (congrArg (fun z : Int => AV.v false [Lf.d (.int .i64) z]) (by first | omega | (simp only [Int.natCast_add, List.length_cons, List.length_append, List.length_nil]; omega))) ?_ | refine And.intro ?_ ?_)))
        · refine ⟨hjl, ?_, hTn.out hTi.out⟩
          rw [hst.out]
          show M ++ [((p.getD ((j : Int)).toNat tHk.dflt).1 + n, (p.getD ((j : Int)).toNat tHk.dflt).2)] = M ++ [((p.getD ((j : Int)).toNat tHk.dflt).1 + 1 * dl (oldR q) (p.getD ((j : Int)).toNat tHk.dflt).1, (p.getD ((j : Int)).toNat tHk.dflt).2)]
          rw [hn.out]
          congr 4
          omega
        · show p.length - (j + 1) < p.length - j; omega
  · rw [List.take_of_length_le (by omega)] at hM
    have hN : M = rbR p q := hM
    have hjq : j = p.length := by omega
    have hmeet := noO_meet (hjq ▸ hT.out)
    replace hN := Lib.hid hN
    replace hM := Lib.hid hM
    replace hmeet := Lib.hid hmeet
    (repeat' (first | (with_reducible refine Step.mk True.intro ?_) | (with_reducible refine Step.mk ?_ ?_; focus (((try simp only [true_and, and_true, and_self, kmin, kmax, decide_eq_true_eq, decide_eq_false_iff_not, castD_self, castL_self, List.length_cons, List.length_nil, List.length_append, Int.natCast_add] at *) <;> omega))) | (with_reducible refine Step.mk ?_ ?_) | (with_reducible refine Way.t1 ?_) | (with_reducible refine Way.f1 ?_) | ((with_reducible refine Way.dec (fun _ => ?_) (fun _ => ?_)) <;> try (exfalso; omega)) | (with_reducible refine Way.nt ?_) | (with_reducible refine Way.mk (fun _ => ?_) (fun _ => ?_)) | (with_reducible refine Drawn.mk (by kernel_rfl) ?_) | (refine Run.mk ?_)))
    · rename_i h1 h2
      have h2 : pC M = 0 := h2
      rw [hN.out] at h2
      obtain ⟨e1, e3, e4, e5⟩ := v3.out hmeet.out h2
      refine Ret.mk ?_
      rw [e1, e3, e4, e5, ← hN.out]
      exact ⟨⟨rfl, .frz rfl, True.intro⟩, ⟨rfl, .same, True.intro⟩, ⟨rfl, .same, .same, True.intro⟩, True.intro⟩
    · rename_i h1 h2
      have h2 : ¬ pC M = 0 := h2
      rw [hN.out] at h2
      obtain ⟨e1, e3, e4, e5⟩ := v2.out hmeet.out h2
      refine Ret.mk ?_
      rw [e1, e3, e4, e5]
      exact ⟨⟨rfl, .frz rfl, True.intro⟩, ⟨rfl, .same, True.intro⟩, ⟨rfl, .same, .same, True.intro⟩, True.intro⟩
theorem refl_t (x y : Int) : (decide (x = x) && decide (y = y)) = true := by simp
theorem law_CommuteMatchesSpec : SpFact 7 (pureSp false [tPat, tPat] (fun _ => True) (fun _ => .v false [.d .bool true])) := by
  refine ⟨⟨Try.f7, rfl, rfl, rfl, pureSp_ok (env_fine (sp := [(22, sp_Commute), (24, sp_RCommute), (25, sp_Rebase), (26, sp_RRebase), (23, spTrue), (20, sp_Patch)]) (eq := [(27, true)])
    ⟨Commute_sp, RCommute_sp, Rebase_sp, RRebase_sp, exchanged_sp, Patch_sp, True.intro⟩ ⟨eq_fault, True.intro⟩) rfl (fun _ _ => rfl) ?_⟩, pureSp_loc _ _ _ _⟩
  rintro ⟨p, q, u⟩ - -
  change List Hk at p q
  have hv := refl_t (cmC p q) (cmI p q)
  have hv2 := refl_t (rbC p q) (rbI p q)
  replace hv := Lib.hid hv
  replace hv2 := Lib.hid hv2
  (refine fnM_of rfl rfl rfl rfl ?_; dsimp only [params, argAV, Ty.leaves, Ty.isSt])
  (repeat' (first | (with_reducible refine Step.mk True.intro ?_) | (with_reducible refine Step.mk ?_ ?_; focus (((try simp only [true_and, and_true, and_self, kmin, kmax, decide_eq_true_eq, decide_eq_false_iff_not, castD_self, castL_self, List.length_cons, List.length_nil, List.length_append, Int.natCast_add] at *) <;> omega))) | (with_reducible refine Step.mk ?_ ?_) | (with_reducible refine Way.t1 ?_) | (with_reducible refine Way.f1 ?_) | ((with_reducible refine Way.dec (fun _ => ?_) (fun _ => ?_)) <;> try (exfalso; omega)) | (with_reducible refine Way.nt ?_) | ((with_reducible refine Way.mk (fun _ => ?_) (fun _ => ?_)) <;> try (exfalso; rename_i hw; first | exact Bool.noConfusion ((Go.RowKit.Hid.out hv).symm.trans hw) | exact Bool.noConfusion (hw.symm.trans (Go.RowKit.Hid.out hv)))) | (with_reducible refine Drawn.mk (by kernel_rfl) ?_) | (refine Run.mk ?_)))
  all_goals try exact Ret.mk rfl
  all_goals (rename_i z; exfalso; first | exact z rfl | exact Bool.noConfusion (hv2.out.symm.trans z))
end Go.Proofs.Ytmbeokkaiblblaa
