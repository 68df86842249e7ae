/- The walk of unified.Format. -/
import Derived.Test.YtppmhjaooiameaaDoorWxGrp
import Derived.Test.YtppmhjaooiameaaDoorWxUniB
import Derived.Test.YtppmhjaooiameaaDoorWxApply
namespace Go.Proofs.YtppmhjaooiameaaDoor
open Go.RowKit
set_option maxRecDepth 20000
set_option linter.unusedSimpArgs false

theorem rawOk_sub {t : List ByteArray} {hi : Int} (h2 : hi ≤ t.length) : ∀ (q r : List Hk) (lo lo' : Int), 0 < q.length → rawOk t t.length lo (q ++ r) → 0 ≤ lo' → lo' ≤ (q.getD 0 (0, [], [])).1 → hkEnd (q.getD (q.length - 1) (0, [], [])) ≤ hi → rawOk t hi lo' q
  | [], _, _, _, h, _, _, _, _ => absurd h (by simp)
  | [h], r, lo, lo', _, hr, l0, l1, l2 => by
    obtain ⟨r1, r2, r3, r4, r5, r6⟩ := hr
    have l1 : lo' ≤ h.1 := l1
    have l2 : hkEnd h ≤ hi := l2
    have := hkEnd_ge h
    exact ⟨l0, l1, r3, r4, r5, by show 0 ≤ hkEnd h; omega, l2, h2⟩
  | h :: k :: q, r, lo, lo', _, hr, l0, l1, l2 => by
    obtain ⟨r1, r2, r3, r4, r5, r6⟩ := hr
    have r6' : rawOk t t.length (hkEnd h) (k :: (q ++ r)) := r6
    obtain ⟨s1, s2, -, -, -, -⟩ := r6'
    exact ⟨l0, l1, r3, r4, r5, rawOk_sub h2 (k :: q) r (hkEnd h) (hkEnd h) (by simp) r6 s1 s2 (by
      have : (h :: k :: q).getD ((h :: k :: q).length - 1) (0, [], []) = (k :: q).getD ((k :: q).length - 1) (0, [], []) := rfl
      rw [← this]; exact l2)⟩
theorem rawOk_tail {t : List ByteArray} {hi : Int} : ∀ (k : Nat) (p : List Hk) (lo : Int), rawOk t hi lo p → k < p.length → ∃ lo', rawOk t hi lo' (p.drop k)
  | 0, p, lo, h, _ => ⟨lo, h⟩
  | k + 1, [], lo, h, hk => absurd hk (by simp)
  | k + 1, h :: p, lo, hr, hk => by
    obtain ⟨-, -, -, -, -, r6⟩ := hr
    exact rawOk_tail k p (hkEnd h) r6 (by simpa using hk)
theorem ap_rawOk {p : List Hk} {t : List ByteArray} (h : (apF p t).1 = 0) : rawOk t t.length 0 p := by
  obtain ⟨a1, a2, a3, a4⟩ := apF_good h
  obtain ⟨p1, p2, p3⟩ := pC_iff.1 a1
  have hc : phC (-1) p = 0 := (phC_iff p (-1)).2 ⟨p2, p3⟩
  exact rawOk_of (vC_len t a2) p (-1) 0 hc (Int.le_refl _) (.inl (by omega)) (by omega) (missI_none p 0 a3)
theorem ap_zero {p : List Hk} {t : List ByteArray} (h : (apF p t).1 = 0) : (apF p t).2 = 0 := by
  obtain ⟨a1, a2, a3, a4⟩ := apF_good h
  unfold apF
  rw [if_neg (by simp [a1]), if_neg (by simp [a2]), a3]
  show (if 120 < (raw t (t.length : Int) 0 p).length then ((10 : Int), (-1 : Int)) else (0, 0)).2 = 0
  rw [if_neg (by omega)]
theorem fm_step {t : List ByteArray} {c g : Int} {n : Nat} {h : Hk} {r : List Hk} (hn : (h :: r).length ≤ n) : fm t c n g (h :: r) = grp t c g ((h :: r).take (gn c h r)) ++ fm t c n (g + pGrow ((h :: r).take (gn c h r))) ((h :: r).drop (gn c h r)) := by
  cases n with
  | zero => exact absurd hn (by simp)
  | succ n =>
    show _ ++ fm t c n _ _ = _
    have := gn_pos c r h
    rw [fm_more t c n (n + 1) _ ((h :: r).drop (gn c h r)) (by rw [List.length_drop]; omega) (by omega)]
theorem gn_cons {c : Int} {h k : Hk} {r : List Hk} : gn c h (k :: r) = if k.1 - hkEnd h ≤ 2 * c then gn c k r + 1 else 1 := rfl
def sp_PEnd : SpecF := pureSp true [tHk] (fun (h', _) => HkOk h') (fun (h', _) => .v false [.d (.int .i64) (hkEnd h')])
theorem PEnd_sp : SpFact 17 sp_PEnd := by
  refine ⟨⟨Tryd.f17, rfl, rfl, rfl, pureSp_ok (env_fine (sp := []) (eq := []) True.intro True.intro) rfl (fun ⟨_, _⟩ _ => rfl) ?_⟩, pureSp_loc _ _ _ _⟩
  rintro ⟨⟨a, o, n⟩, u⟩ - ⟨h1, h2, h3, h4⟩
  change Int at a
  change List ByteArray at o n
  replace h1 : 0 ≤ a := h1
  replace h2 : a ≤ 120 := h2
  replace h3 : o.length ≤ 120 := h3
  (refine fnM_of rfl rfl rfl rfl ?_; dsimp only [params, argAV, Ty.leaves, Ty.isSt])
  (repeat' (first | (with_reducible refine Cend.go ?_) | (with_reducible refine Step.mk True.intro ?_) | (with_reducible refine Step.mk ?_ ?_; focus (((try simp only [true_and, and_true, and_self, kmin, kmax, decide_eq_true_eq, decide_eq_false_iff_not, castD_self, castL_self, List.length_cons, List.length_nil, List.length_append, Int.natCast_add] at *) <;> omega))) | (with_reducible refine Step.mk ?_ ?_) | (with_reducible refine Way.t1 ?_) | (with_reducible refine Way.f1 ?_) | ((with_reducible refine Way.dec (fun _ => ?_) (fun _ => ?_)) <;> try (exfalso; omega)) | (with_reducible refine Way.nt ?_) | (with_reducible refine Way.mk (fun _ => ?_) (fun _ => ?_)) | (with_reducible refine Drawn.mk (by kernel_rfl) ?_) | (refine Run.mk ?_)))
  exact Ret.mk rfl
def sp_Format : SpecF := pureSp false [.slice .str, tPat, .int .i64] (fun _ => True) (fun (t', p', c', _) => .tu [(false, [.d .str (fmS t' p' c')]), (true, [.d (.int .i64) (fmC t' p' c').1, .d (.int .i64) (fmC t' p' c').2])])
set_option maxHeartbeats 2000000 in
theorem Format_sp : SpFact 7 sp_Format := by
  refine ⟨⟨Tryd.f7, rfl, rfl, rfl, pureSp_okF (env_fine (sp := [(14, sp_Apply), (17, sp_PEnd), (18, sp_group), (20, sp_BStr), (19, sp_BLen)]) (eq := [(27, true)])
    ⟨Apply_sp, PEnd_sp, group_sp, BStr_sp, BLen_sp, True.intro⟩ ⟨eq_fault, True.intro⟩) rfl (fun _ _ => rfl) ?_⟩, pureSp_loc _ _ _ _⟩
  rintro ⟨t, p, c, u⟩ - -
  change List Hk at p
  change List ByteArray at t
  change Int at c
  by_cases ha : (apF p t).1 = 0
  · have hv : (decide ((apF p t).1 = 0) && decide ((apF p t).2 = 0)) = true := by rw [decide_eq_true ha, decide_eq_true (ap_zero ha)]; rfl
    replace hv := Lib.hid hv
    by_cases hc : c < 0 ∨ 120 < c
    · have eC : fmC t p c = (3, -3) := by unfold fmC; rw [if_neg (fun z => z ha), if_pos hc]
      have eS : fmS t p c = ⟨#[]⟩ := by unfold fmS; rw [eC]; rfl
      (refine fnM_of rfl rfl rfl rfl ?_; dsimp only [params, argAV, Ty.leaves, Ty.isSt])
      (repeat' (first | (with_reducible refine Cend.go ?_) | (with_reducible refine Step.mk True.intro ?_) | (with_reducible refine Step.mk ?_ ?_; focus (((try simp only [true_and, and_true, and_self, kmin, kmax, decide_eq_true_eq, decide_eq_false_iff_not, castD_self, castL_self, List.length_cons, List.length_nil, List.length_append, Int.natCast_add] at *) <;> omega))) | (with_reducible refine Step.mk ?_ ?_) | (with_reducible refine Way.t1 ?_) | (with_reducible refine Way.f1 ?_) | ((with_reducible refine Way.dec (fun _ => ?_) (fun _ => ?_)) <;> try (exfalso; omega)) | (with_reducible refine Way.nt ?_) | ((with_reducible refine Way.mk (fun _ => ?_) (fun _ => ?_)) <;> try (exfalso; rename_i hw; first | exact Bool.noConfusion ((Go.RowKit.Hid.out hv).symm.trans hw) | exact Bool.noConfusion (hw.symm.trans (Go.RowKit.Hid.out hv)))) | (with_reducible refine Drawn.mk (by kernel_rfl) ?_) | (refine Run.mk ?_)))
      all_goals refine Ret.mk ?_
      all_goals rw [eC, eS]
      all_goals exact ⟨⟨rfl, .same, True.intro⟩, ⟨rfl, .same, .same, True.intro⟩, True.intro⟩
    · have hC : fmC t p c = if 4096 < (fmL t p c).length then (10, -1) else (0, 0) := by unfold fmC; rw [if_neg (fun z => z ha), if_neg hc]
      have hc0 : 0 ≤ c := by omega
      have hc1 : c ≤ 120 := by omega
      obtain ⟨a1, a2, a3, a4⟩ := apF_good ha
      obtain ⟨p1, p2, p3⟩ := pC_iff.1 a1
      have okp := (pC_ok a1).2
      have hraw := ap_rawOk ha
      have htl := vC_len t a2
      have hts := line_small a2
      have hocc : ∀ h ∈ p, hkEnd h ≤ t.length := fun h hh => by
        have := (occ_iff.1 (missI_none p 0 a3 h hh)).2.2.1
        show h.1 + (h.2.1.length : Int) ≤ _
        omega
      replace hocc := Lib.hid hocc
      clear hc
      replace p2 := Lib.hid p2
      replace p3 := Lib.hid p3
      replace okp := Lib.hid okp
      replace hraw := Lib.hid hraw
      replace hts := Lib.hid hts
      replace hC := Lib.hid hC
      (refine fnM_of rfl rfl rfl rfl ?_; dsimp only [params, argAV, Ty.leaves, Ty.isSt])
      (repeat' (first | (with_reducible refine Cend.go ?_) | (with_reducible refine Step.mk True.intro ?_) | (with_reducible refine Step.mk ?_ ?_; focus (((try simp only [true_and, and_true, and_self, kmin, kmax, decide_eq_true_eq, decide_eq_false_iff_not, castD_self, castL_self, List.length_cons, List.length_nil, List.length_append, Int.natCast_add] at *) <;> omega))) | (with_reducible refine Step.mk ?_ ?_) | (with_reducible refine Way.t1 ?_) | (with_reducible refine Way.f1 ?_) | ((with_reducible refine Way.dec (fun _ => ?_) (fun _ => ?_)) <;> try (exfalso; omega)) | (with_reducible refine Way.nt ?_) | ((with_reducible refine Way.mk (fun _ => ?_) (fun _ => ?_)) <;> try (exfalso; rename_i hw; first | exact Bool.noConfusion ((Go.RowKit.Hid.out hv).symm.trans hw) | exact Bool.noConfusion (hw.symm.trans (Go.RowKit.Hid.out hv)))) | (with_reducible refine Drawn.mk (by kernel_rfl) ?_) | (refine Run.mk ?_)))
      refine loop_by (X := Nat × Int × List UInt8) (fun x => [.put 0 (.v false [.d (.slice .str) t]), .put 2 (.v false [.d (.int .i64) c]), .put 4 (.v false [.p 4 0]), .put 7 (.v false [.p 7 0]), .put 10 (.v false [.p 10 0]), .put 11 (.v false [.d (.int .i64) x.2.1]), .put 12 (.v false [.d (.int .i64) (x.1 : Int)])])
        (fun x => [.put 7 (.box 27 [.d (.int .i64) 0, .d (.int .i64) 0]), .put 4 (.box 25 [.d (.slice tHk) p]), .put 10 (.bld 48 5 x.2.2)])
        (fun x => x.1 ≤ p.length ∧ fmL t p c = x.2.2 ++ fm t c p.length x.2.1 (p.drop x.1) ∧ x.2.2.length ≤ 40000 * x.1 ∧ -(120 * (x.1 : Int)) ≤ x.2.1 ∧ x.2.1 ≤ 120 * (x.1 : Int)) (fun x => p.length - x.1) (0, 0, []) ⟨Nat.zero_le _, rfl, Nat.zero_le _, by show -(120 * ((0 : Nat) : Int)) ≤ 0; omega, by show (0 : Int) ≤ 120 * ((0 : Nat) : Int); omega⟩ ?_ ?_
      · refine (Wk.bldU 10 (T := 48) (e := 5) (l := []) rfl).trans ?_
        (refine Wk.keep ?_ ?_ <;> repeat' (first | exact True.intro | refine And.intro rfl ?_ | refine And.intro (congrArg (fun z : Int => AV.v false [Lf.d (.int .i64) z]) (by first | omega | (simp only [Int.natCast_add, List.length_cons, List.length_append, List.length_nil]; omega))) ?_ | refine And.intro ?_ ?_))
      rintro ⟨i, g, B⟩ ⟨hi, hB, hBl, hg0, hg1⟩
      dsimp only at hi hB hBl hg0 hg1 ⊢
      by_cases hip : i < p.length
      · have hg := getD_at (a := p) tHk.dflt hip
        have hdi : p.drop i = p[i] :: p.drop (i + 1) := List.drop_eq_getElem_cons hip
        rw [← hg] at hdi
        rw [hdi, fm_step (by rw [← hdi, List.length_drop]; omega)] at hB
        have hKp := gn_pos c (p.drop (i + 1)) (p.getD ((i : Int)).toNat tHk.dflt)
        have hKl := gn_le c (p.drop (i + 1)) (p.getD ((i : Int)).toNat tHk.dflt)
        rw [List.length_drop] at hKl
        obtain ⟨K, hKg⟩ : ∃ K, K = gn c (p.getD ((i : Int)).toNat tHk.dflt) (p.drop (i + 1)) := ⟨_, rfl⟩
        rw [← hKg] at hB hKp hKl
        rw [← hdi] at hB
        have hK : K + 1 = (i + 1 - i) + gn c (p.getD ((i : Int)).toNat tHk.dflt) (p.drop (i + 1)) := by omega
        clear hKg
        replace hg := Lib.hid hg
        replace hdi := Lib.hid hdi
        replace hB := Lib.hid hB
        (repeat' (first | (with_reducible refine Cend.go ?_) | (with_reducible refine Step.mk True.intro ?_) | (with_reducible refine Step.mk ?_ ?_; focus (((try simp only [true_and, and_true, and_self, kmin, kmax, decide_eq_true_eq, decide_eq_false_iff_not, castD_self, castL_self, List.length_cons, List.length_nil, List.length_append, Int.natCast_add] at *) <;> omega))) | (with_reducible refine Step.mk ?_ ?_) | (with_reducible refine Way.t1 ?_) | (with_reducible refine Way.f1 ?_) | ((with_reducible refine Way.dec (fun _ => ?_) (fun _ => ?_)) <;> try (exfalso; omega)) | (with_reducible refine Way.nt ?_) | (with_reducible refine Way.mk (fun _ => ?_) (fun _ => ?_)) | (with_reducible refine Drawn.mk (by kernel_rfl) ?_) | (refine Run.mk ?_)))
        refine loop_by (X := Nat) (fun x => [.put 0 (.v false [.d (.slice .str) t]), .put 2 (.v false [.d (.int .i64) c]), .put 4 (.v false [.p 4 0]), .put 7 (.v false [.p 7 0]), .put 10 (.v false [.p 10 0]), .put 11 (.v false [.d (.int .i64) g]), .put 12 (.v false [.d (.int .i64) (i : Int)]), .put 13 (.v false [.d (.int .i64) (x : Int)])])
          (fun _ => [.put 7 (.box 27 [.d (.int .i64) 0, .d (.int .i64) 0]), .put 4 (.box 25 [.d (.slice tHk) p]), .put 10 (.bld 48 5 B)])
          (fun x => i < x ∧ x ≤ p.length ∧ K + 1 = (x - i) + gn c (p.getD ((x : Int) - 1).toNat tHk.dflt) (p.drop x)) (fun x => p.length - x) (i + 1) ⟨Nat.lt_succ_self _, hip, by rw [show ((i + 1 : Nat) : Int) - 1 = (i : Int) by omega]; exact hK⟩ ?_ ?_
        · (refine Wk.keep ?_ ?_ <;> repeat' (first | exact True.intro | refine And.intro rfl ?_ | refine And.intro (congrArg (fun z : Int => AV.v false [Lf.d (.int .i64) z]) (by first | omega | (simp only [Int.natCast_add, List.length_cons, List.length_append, List.length_nil]; omega))) ?_ | refine And.intro ?_ ?_))
        clear hK
        rintro x ⟨hx0, hx1, hxK⟩
        (try dsimp only)
        have hx1' : x - 1 < p.length := by omega
        have hgy : p.getD ((x : Int) - 1).toNat tHk.dflt = p[x - 1] := by rw [show ((x : Int) - 1).toNat = x - 1 by omega, List.getD_eq_getElem?_getD, List.getElem?_eq_getElem hx1']; rfl
        have hoky := okp.out _ (List.getElem_mem hx1')
        rw [← hgy] at hoky
        have hE2 : hkEnd ((p.getD ((x : Int) - 1).toNat tHk.dflt).1, (p.getD ((x : Int) - 1).toNat tHk.dflt).2.1, (p.getD ((x : Int) - 1).toNat tHk.dflt).2.2) = (p.getD ((x : Int) - 1).toNat tHk.dflt).1 + ((p.getD ((x : Int) - 1).toNat tHk.dflt).2.1.length : Int) := rfl
        have hE3 : hkEnd (p.getD ((x : Int) - 1).toNat tHk.dflt) = (p.getD ((x : Int) - 1).toNat tHk.dflt).1 + ((p.getD ((x : Int) - 1).toNat tHk.dflt).2.1.length : Int) := rfl
        have hoky' := hoky
        obtain ⟨y1, y2, y3, y4⟩ := hoky'
        replace hoky := Lib.hid hoky
        replace hgy := Lib.hid hgy
        by_cases hA : (x < p.length ∧ (p.getD ((x : Int)).toNat tHk.dflt).1 - ((p.getD ((x : Int) - 1).toNat tHk.dflt).1 + ((p.getD ((x : Int) - 1).toNat tHk.dflt).2.1.length : Int)) ≤ 2 * c)
        · obtain ⟨hA1, hA2⟩ := hA
          have hgx := getD_at (a := p) tHk.dflt hA1
          obtain ⟨x1, x2, x3, x4⟩ := okp.out _ (List.getElem_mem hA1)
          rw [← hgx] at x1 x2 x3 x4
          have hdx : p.drop x = p[x] :: p.drop (x + 1) := List.drop_eq_getElem_cons hA1
          rw [hdx, ← hgx, gn_cons, if_pos (by rw [hE3]; exact hA2)] at hxK
          replace hgx := Lib.hid hgx
          replace hdx := Lib.hid hdx
          (repeat' (first | (with_reducible refine Cend.go ?_) | (with_reducible refine Step.mk True.intro ?_) | (with_reducible refine Step.mk ?_ ?_; focus (((try simp only [true_and, and_true, and_self, kmin, kmax, decide_eq_true_eq, decide_eq_false_iff_not, castD_self, castL_self, List.length_cons, List.length_nil, List.length_append, Int.natCast_add] at *) <;> omega))) | (with_reducible refine Step.mk ?_ ?_) | (with_reducible refine Way.t1 ?_) | (with_reducible refine Way.f1 ?_) | ((with_reducible refine Way.dec (fun zz => ?_) (fun zz => ?_)) <;> (try simp only [castD_self, castL_self] at zz) <;> try (exfalso; first | omega | contradiction)) | (with_reducible refine Way.nt ?_) | ((with_reducible refine Way.mk (fun _ => ?_) (fun _ => ?_)) <;> try (exfalso; rename_i hw; first | exact Bool.noConfusion ((Go.RowKit.Hid.out hv).symm.trans hw) | exact Bool.noConfusion (hw.symm.trans (Go.RowKit.Hid.out hv)))) | (with_reducible refine Drawn.mk (by kernel_rfl) ?_) | (refine Run.mk ?_)))
          · exact hoky.out
          refine Back.by (x + 1) ?_ ?_ ?_
          · (refine Wk.keep ?_ ?_ <;> repeat' (first | exact True.intro | refine And.intro rfl ?_ | refine And.intro (congrArg (fun z : Int => AV.v false [Lf.d (.int .i64) z]) (by first | omega | (simp only [Int.natCast_add, List.length_cons, List.length_append, List.length_nil]; omega))) ?_ | refine And.intro ?_ ?_))
          · refine ⟨by omega, hA1, ?_⟩
            rw [show ((x + 1 : Nat) : Int) - 1 = (x : Int) by omega]
            omega
          · show p.length - (x + 1) < p.length - x; omega
        · have hKx : K = x - i := by
            by_cases hA1 : x < p.length
            · have hdx : p.drop x = p[x] :: p.drop (x + 1) := List.drop_eq_getElem_cons hA1
              have hgx := getD_at (a := p) tHk.dflt hA1
              rw [hdx, ← hgx, gn_cons, if_neg (by rw [hE3]; exact fun z => hA ⟨hA1, z⟩)] at hxK
              omega
            · rw [List.drop_eq_nil_of_le (by omega)] at hxK
              have : gn c (p.getD ((x : Int) - 1).toNat tHk.dflt) [] = 1 := rfl
              omega
          have hA' : ¬ (x < p.length) ∨ ¬ ((p.getD ((x : Int)).toNat tHk.dflt).1 - ((p.getD ((x : Int) - 1).toNat tHk.dflt).1 + ((p.getD ((x : Int) - 1).toNat tHk.dflt).2.1.length : Int)) ≤ 2 * c) := by
            by_cases hA1 : x < p.length
            · exact .inr fun z => hA ⟨hA1, z⟩
            · exact .inl hA1
          have hgetx : x < p.length → 0 ≤ (p.getD ((x : Int)).toNat tHk.dflt).1 ∧ (p.getD ((x : Int)).toNat tHk.dflt).1 ≤ 120 := fun h => by
            have hgx := getD_at (a := p) tHk.dflt h
            obtain ⟨x1, x2, x3, x4⟩ := okp.out _ (List.getElem_mem h)
            rw [← hgx] at x1 x2
            exact ⟨x1, x2⟩
          have hQl : ((p.take x).drop i).length = x - i := by rw [List.length_drop, List.length_take]; omega
          have hQm : ∀ h ∈ (p.take x).drop i, h ∈ p := fun h hh => List.mem_of_mem_take (List.mem_of_mem_drop hh)
          have hQK : (p.drop i).take K = (p.take x).drop i := by rw [hKx, List.drop_take]
          have hQr : p.drop i = (p.take x).drop i ++ p.drop x := by
            rw [← List.drop_append_of_le_length (by rw [List.length_take]; omega), List.take_append_drop]
          have hQd : (p.drop i).drop K = p.drop x := by rw [List.drop_drop, hKx, show i + (x - i) = x by omega]
          have hB2 := hB.out
          rw [hQK, hQd] at hB2
          have m0 : ((p.take x).drop i).getD 0 (0, [], []) ∈ (p.take x).drop i := by
            rw [List.getD_eq_getElem?_getD, List.getElem?_eq_getElem (by omega)]; exact List.getElem_mem _
          have m1 : ((p.take x).drop i).getD (((p.take x).drop i).length - 1) (0, [], []) ∈ (p.take x).drop i := by
            rw [List.getD_eq_getElem?_getD, List.getElem?_eq_getElem (by omega)]; exact List.getElem_mem _
          have hG : gOk t ((p.take x).drop i) c g := by
            refine ⟨htl, hts.out, by omega, by omega, fun h hh => p3.out h (hQm h hh), ⟨hc0, hc1⟩, ⟨by omega, by omega⟩, ?_⟩
            obtain ⟨lo', hr⟩ := rawOk_tail i p 0 hraw.out hip
            rw [hQr] at hr
            have z0 := (p3.out _ (hQm _ m0)).1
            have z1 := hocc.out _ (hQm _ m1)
            refine rawOk_sub ?_ _ _ lo' _ (by omega) hr ?_ ?_ ?_
            · unfold gHigh; omega
            · unfold gLow; omega
            · unfold gLow; omega
            · unfold gHigh; omega
          have hGl := grp_len hG
          have hgb := pGrow_bd ((p.take x).drop i) fun h hh => okp.out h (hQm h hh)
          rw [hQl] at hGl hgb
          clear hA m0 m1 hQm hQr hQd hQK
          replace hG := Lib.hid hG
          replace hB2 := Lib.hid hB2
          (repeat' (first | (with_reducible refine Cend.go ?_) | (with_reducible refine Step.mk True.intro ?_) | (with_reducible refine Step.mk ?_ ?_; focus (((try simp only [true_and, and_true, and_self, kmin, kmax, decide_eq_true_eq, decide_eq_false_iff_not, castD_self, castL_self, List.length_cons, List.length_nil, List.length_append, Int.natCast_add] at *) <;> omega))) | (with_reducible refine Step.mk ?_ ?_) | (with_reducible refine Way.t1 ?_) | (with_reducible refine Way.f1 ?_) | ((with_reducible refine Way.dec (fun zz => ?_) (fun zz => ?_)) <;> (try simp only [castD_self, castL_self] at zz) <;> try (exfalso; first | omega | contradiction)) | (with_reducible refine Way.nt ?_) | ((with_reducible refine Way.mk (fun _ => ?_) (fun _ => ?_)) <;> try (exfalso; rename_i hw; first | exact Bool.noConfusion ((Go.RowKit.Hid.out hv).symm.trans hw) | exact Bool.noConfusion (hw.symm.trans (Go.RowKit.Hid.out hv)))) | (with_reducible refine Drawn.mk (by kernel_rfl) ?_) | (refine Run.mk ?_)))
          all_goals first
            | exact hoky.out
            | exact ⟨hG.out, show B.length ≤ 10000000 by omega⟩
            | (refine Back.by (x, g + pGrow ((p.take x).drop i), B ++ grp t c g ((p.take x).drop i)) ?_ ?_ ?_
               · (refine Wk.keep ?_ ?_ <;> repeat' (first | exact True.intro | refine And.intro rfl ?_ | refine And.intro (congrArg (fun z : Int => AV.v false [Lf.d (.int .i64) z]) (by first | omega | (simp only [Int.natCast_add, List.length_cons, List.length_append, List.length_nil]; omega))) ?_ | refine And.intro ?_ ?_))
               · refine ⟨hx1, ?_, ?_, ?_, ?_⟩
                 · dsimp only
                   rw [hB2.out, List.append_assoc]
                 · show (B ++ grp t c g ((p.take x).drop i)).length ≤ 40000 * x
                   rw [List.length_append]
                   omega
                 · show -(120 * (x : Int)) ≤ g + pGrow ((p.take x).drop i)
                   omega
                 · show g + pGrow ((p.take x).drop i) ≤ 120 * (x : Int)
                   omega
               · show p.length - x < p.length - i; omega)
            | skip
      · have hdi : p.drop i = [] := List.drop_eq_nil_of_le (by omega)
        rw [hdi] at hB
        have hB : fmL t p c = B := hB.trans (by cases p.length <;> exact List.append_nil B)
        subst hB
        by_cases h4 : 4096 < (fmL t p c).length
        · have eC : fmC t p c = (10, -1) := hC.out.trans (if_pos h4)
          have eS : fmS t p c = ⟨#[]⟩ := by unfold fmS; rw [eC]; rfl
          (repeat' (first | (with_reducible refine Cend.go ?_) | (with_reducible refine Step.mk True.intro ?_) | (with_reducible refine Step.mk ?_ ?_; focus (((try simp only [true_and, and_true, and_self, kmin, kmax, decide_eq_true_eq, decide_eq_false_iff_not, castD_self, castL_self, List.length_cons, List.length_nil, List.length_append, Int.natCast_add] at *) <;> omega))) | (with_reducible refine Step.mk ?_ ?_) | (with_reducible refine Way.t1 ?_) | (with_reducible refine Way.f1 ?_) | ((with_reducible refine Way.dec (fun _ => ?_) (fun _ => ?_)) <;> try (exfalso; omega)) | (with_reducible refine Way.nt ?_) | (with_reducible refine Way.mk (fun _ => ?_) (fun _ => ?_)) | (with_reducible refine Drawn.mk (by kernel_rfl) ?_) | (refine Run.mk ?_)))
          all_goals refine Ret.mk ?_
          all_goals rw [eC, eS]
          all_goals exact ⟨⟨rfl, .same, True.intro⟩, ⟨rfl, .same, .same, True.intro⟩, True.intro⟩
        · have eC : fmC t p c = (0, 0) := hC.out.trans (if_neg h4)
          have eS : fmS t p c = ⟨(fmL t p c).toArray⟩ := by unfold fmS; rw [eC]; rfl
          (repeat' (first | (with_reducible refine Cend.go ?_) | (with_reducible refine Step.mk True.intro ?_) | (with_reducible refine Step.mk ?_ ?_; focus (((try simp only [true_and, and_true, and_self, kmin, kmax, decide_eq_true_eq, decide_eq_false_iff_not, castD_self, castL_self, List.length_cons, List.length_nil, List.length_append, Int.natCast_add] at *) <;> omega))) | (with_reducible refine Step.mk ?_ ?_) | (with_reducible refine Way.t1 ?_) | (with_reducible refine Way.f1 ?_) | ((with_reducible refine Way.dec (fun _ => ?_) (fun _ => ?_)) <;> try (exfalso; omega)) | (with_reducible refine Way.nt ?_) | (with_reducible refine Way.mk (fun _ => ?_) (fun _ => ?_)) | (with_reducible refine Drawn.mk (by kernel_rfl) ?_) | (refine Run.mk ?_)))
          all_goals refine Ret.mk ?_
          all_goals rw [eC, eS]
          all_goals exact ⟨⟨rfl, .same, True.intro⟩, ⟨rfl, .same, .same, True.intro⟩, True.intro⟩
  · have hv : (decide ((apF p t).1 = 0) && decide ((apF p t).2 = 0)) = false := by rw [decide_eq_false ha]; rfl
    have eC : fmC t p c = apF p t := if_pos ha
    have eS : fmS t p c = ⟨#[]⟩ := by unfold fmS; rw [eC]; exact if_neg ha
    replace hv := Lib.hid hv
    (refine fnM_of rfl rfl rfl rfl ?_; dsimp only [params, argAV, Ty.leaves, Ty.isSt])
    (repeat' (first | (with_reducible refine Cend.go ?_) | (with_reducible refine Step.mk True.intro ?_) | (with_reducible refine Step.mk ?_ ?_; focus (((try simp only [true_and, and_true, and_self, kmin, kmax, decide_eq_true_eq, decide_eq_false_iff_not, castD_self, castL_self, List.length_cons, List.length_nil, List.length_append, Int.natCast_add] at *) <;> omega))) | (with_reducible refine Step.mk ?_ ?_) | (with_reducible refine Way.t1 ?_) | (with_reducible refine Way.f1 ?_) | ((with_reducible refine Way.dec (fun _ => ?_) (fun _ => ?_)) <;> try (exfalso; omega)) | (with_reducible refine Way.nt ?_) | ((with_reducible refine Way.mk (fun _ => ?_) (fun _ => ?_)) <;> try (exfalso; rename_i hw; first | exact Bool.noConfusion ((Go.RowKit.Hid.out hv).symm.trans hw) | exact Bool.noConfusion (hw.symm.trans (Go.RowKit.Hid.out hv)))) | (with_reducible refine Drawn.mk (by kernel_rfl) ?_) | (refine Run.mk ?_)))
    all_goals refine Ret.mk ?_
    all_goals rw [eC, eS]
    all_goals exact ⟨⟨rfl, .same, True.intro⟩, ⟨rfl, .same, .same, True.intro⟩, True.intro⟩
end Go.Proofs.YtppmhjaooiameaaDoor
