/- The walk of unified.group. -/
import Derived.Test.YtppmhjaooiameaaDoorWxItoa
namespace Go.Proofs.YtppmhjaooiameaaDoor
open Go.RowKit
set_option maxRecDepth 20000
set_option linter.unusedSimpArgs false

def gOk (t : List ByteArray) (q : List Hk) (c g : Int) : Prop :=
  t.length ≤ 120 ∧ (∀ s ∈ t, s.size ≤ 80) ∧ 0 < q.length ∧ q.length ≤ 130 ∧ (∀ h ∈ q, HkGood h) ∧ (0 ≤ c ∧ c ≤ 120) ∧ (-20000 ≤ g ∧ g ≤ 20000) ∧ rawOk t (gHigh t c (q.getD (q.length - 1) (0, [], []))) (gLow c (q.getD 0 (0, [], []))) q
theorem grp_len {t : List ByteArray} {q : List Hk} {c g : Int} (h : gOk t q c g) : (grp t c g q).length ≤ 9960 + 29520 * q.length := by
  obtain ⟨h1, h2, h3, h4, h5, ⟨h6, h7⟩, ⟨h8, h9⟩, h10⟩ := h
  have hb := gb_len (hi := gHigh t c (q.getD (q.length - 1) (0, [], []))) h1 h2 q (gLow c (q.getD 0 (0, [], []))) h5
  have hg := pGrow_bd q fun x hx => by
    obtain ⟨g1, g2, g3, g4, -, g6⟩ := h5 x hx
    exact ⟨g1, g2, vC_len _ g3, vC_len _ g4⟩
  have e1 : gHigh t c (q.getD (q.length - 1) (0, [], [])) ≤ 120 ∧ -1000 ≤ gHigh t c (q.getD (q.length - 1) (0, [], [])) := by
    unfold gHigh
    have hm : q.getD (q.length - 1) (0, [], []) ∈ q := by
      rw [List.getD_eq_getElem?_getD, List.getElem?_eq_getElem (by omega)]; exact List.getElem_mem _
    obtain ⟨g1, g2, g3, g4, -, g6⟩ := h5 _ hm
    have := hkEnd_ge (q.getD (q.length - 1) (0, [], []))
    omega
  have e2 : gLow c (q.getD 0 (0, [], [])) ≤ 120 ∧ 0 ≤ gLow c (q.getD 0 (0, [], [])) := by
    unfold gLow
    have hm : q.getD 0 (0, [], []) ∈ q := by
      rw [List.getD_eq_getElem?_getD, List.getElem?_eq_getElem (by omega)]; exact List.getElem_mem _
    obtain ⟨g1, g2, g3, g4, -, g6⟩ := h5 _ hm
    omega
  unfold grp
  dsimp only
  have s1 := side_len (gLow c (q.getD 0 (0, [], []))) (gHigh t c (q.getD (q.length - 1) (0, [], [])) - gLow c (q.getD 0 (0, [], []))) (by omega) (by omega) (by omega) (by omega)
  have s2 := side_len (gLow c (q.getD 0 (0, [], [])) + g) (gHigh t c (q.getD (q.length - 1) (0, [], [])) - gLow c (q.getD 0 (0, [], [])) + pGrow q) (by omega) (by omega) (by omega) (by omega)
  simp only [List.length_append, List.length_cons, List.length_nil]
  omega
def sp_group : SpecF := bldSp [.slice .str, .slice tHk, .int .i64, .int .i64] (fun l (t', q', c', g', _) => gOk t' q' c' g' ∧ l.length ≤ 10000000) (fun (_, q', _, g', _) => .v false [.d (.int .i64) ((show Int from g') + pGrow q')]) (fun l (t', q', c', g', _) => l ++ grp t' c' g' q')
set_option maxHeartbeats 2000000 in
theorem group_sp : SpFact 18 sp_group := by
  refine ⟨⟨Tryd.f18, rfl, rfl, rfl, bldSp_ok (env1_fine (sp := [(42, sp_WS), (43, sp_side), (44, sp_prefixed)]) (eq := [])
    (inl := [(17, Tryd.f17), (41, Tryd.f41)]) (cl := []) ⟨WS_sp, side_sp, prefixed_sp, True.intro⟩ True.intro ⟨⟨rfl, rfl, rfl⟩, ⟨rfl, rfl, rfl⟩, True.intro⟩) rfl (fun _ => rfl) ?_⟩, bldSp_loc _ _ _ _⟩
  rintro l ⟨t, q, c, g, u⟩ - ⟨hok, hl⟩
  have hgl := grp_len hok
  obtain ⟨h1, h2, h3, h4, h5, ⟨h6, h7⟩, ⟨h8, h9⟩, h10⟩ := hok
  change List ByteArray at t
  change List Hk at q
  change Int at c g
  have z0 : q.getD (Int.toNat 0) tHk.dflt = q.getD 0 (0, [], []) := rfl
  have z1 : q.getD ((q.length : Int) - 1).toNat tHk.dflt = q.getD (q.length - 1) (0, [], []) := by rw [show ((q.length : Int) - 1).toNat = q.length - 1 by omega]; rfl
  have m0 : q.getD 0 (0, [], []) ∈ q := by
    rw [List.getD_eq_getElem?_getD, List.getElem?_eq_getElem (by omega)]; exact List.getElem_mem _
  have m1 : q.getD (q.length - 1) (0, [], []) ∈ q := by
    rw [List.getD_eq_getElem?_getD, List.getElem?_eq_getElem (by omega)]; exact List.getElem_mem _
  obtain ⟨a1, a2, a3, a4, -, a6⟩ := h5 _ m0
  obtain ⟨b1, b2, b3, b4, -, b6⟩ := h5 _ m1
  rw [← z0] at a1 a2 a3 a4 a6
  rw [← z1] at b1 b2 b3 b4 b6
  have b7 := vC_len _ b3
  have a7 := vC_len _ a3
  replace h2 := Lib.hid h2
  replace h5 := Lib.hid h5
  replace h10 := Lib.hid h10
  replace z0 := Lib.hid z0
  replace z1 := Lib.hid z1
  clear m0 m1
  (refine fnB_of rfl rfl rfl rfl ?_; dsimp only [params, argAV, Ty.leaves, Ty.isSt, List.cons_append, List.nil_append])
  (repeat' (first | (with_reducible refine Cend.go ?_) | (with_reducible refine Step.mk True.intro ?_) | (with_reducible refine Step.mk ?_ ?_; focus (((try simp only [true_and, and_true, and_self, kmin, kmax, decide_eq_true_eq, decide_eq_false_iff_not, castD_self, castL_self, List.length_cons, List.length_nil, List.length_append, Int.natCast_add] at *) <;> omega))) | (with_reducible refine Step.mk ?_ ?_) | (with_reducible refine Way.t1 ?_) | (with_reducible refine Way.f1 ?_) | ((with_reducible refine Way.dec (fun _ => ?_) (fun _ => ?_)) <;> try (exfalso; omega)) | (with_reducible refine Way.nt ?_) | (with_reducible refine Way.mk (fun _ => ?_) (fun _ => ?_)) | (with_reducible refine Drawn.mk (by kernel_rfl) ?_) | (refine Run.mk ?_)))
  · show -9223372036854775808 ≤ max ((q.getD (Int.toNat 0) tHk.dflt).1 - c) 0 ∧ max ((q.getD (Int.toNat 0) tHk.dflt).1 - c) 0 ≤ 9223372036854775807
    omega
  · show -9223372036854775808 ≤ min ((q.getD ((q.length : Int) - 1).toNat tHk.dflt).1 + ((q.getD ((q.length : Int) - 1).toNat tHk.dflt).2.1.length : Int) + c) (t.length : Int) ∧ min ((q.getD ((q.length : Int) - 1).toNat tHk.dflt).1 + ((q.getD ((q.length : Int) - 1).toNat tHk.dflt).2.1.length : Int) + c) (t.length : Int) ≤ 9223372036854775807
    omega
  have elo : gLow c (q.getD 0 (0, [], [])) = max ((q.getD (Int.toNat 0) tHk.dflt).1 - c) 0 := by rw [z0.out]; rfl
  have ehi : gHigh t c (q.getD (q.length - 1) (0, [], [])) = min ((q.getD ((q.length : Int) - 1).toNat tHk.dflt).1 + ((q.getD ((q.length : Int) - 1).toNat tHk.dflt).2.1.length : Int) + c) (t.length : Int) := by rw [z1.out]; rfl
  have hbl : 0 ≤ max ((q.getD (Int.toNat 0) tHk.dflt).1 - c) 0 ∧ max ((q.getD (Int.toNat 0) tHk.dflt).1 - c) 0 ≤ 120 := by omega
  have hbh : 0 ≤ min ((q.getD ((q.length : Int) - 1).toNat tHk.dflt).1 + ((q.getD ((q.length : Int) - 1).toNat tHk.dflt).2.1.length : Int) + c) (t.length : Int) ∧ min ((q.getD ((q.length : Int) - 1).toNat tHk.dflt).1 + ((q.getD ((q.length : Int) - 1).toNat tHk.dflt).2.1.length : Int) + c) (t.length : Int) ≤ 120 := by omega
  have eg : grp t c g q = [64, 64, 32, 45] ++ side (gLow c (q.getD 0 (0, [], []))) (gHigh t c (q.getD (q.length - 1) (0, [], [])) - gLow c (q.getD 0 (0, [], []))) ++ [32, 43] ++ side (gLow c (q.getD 0 (0, [], [])) + g) (gHigh t c (q.getD (q.length - 1) (0, [], [])) - gLow c (q.getD 0 (0, [], [])) + pGrow q) ++ [32, 64, 64, 10] ++ gb t (gHigh t c (q.getD (q.length - 1) (0, [], []))) (gLow c (q.getD 0 (0, [], []))) q := rfl
  have h10 := h10.out
  rw [elo, ehi] at eg h10
  clear elo ehi z0 z1 a1 a2 a3 a4 a6 a7 b1 b2 b3 b4 b6 b7
  generalize max ((q.getD (Int.toNat 0) tHk.dflt).1 - c) 0 = lo at *
  generalize min ((q.getD ((q.length : Int) - 1).toNat tHk.dflt).1 + ((q.getD ((q.length : Int) - 1).toNat tHk.dflt).2.1.length : Int) + c) (t.length : Int) = hi at *
  obtain ⟨l1, l2⟩ := hbl
  obtain ⟨i1, i2⟩ := hbh
  have hgb : ∀ k, -15600 ≤ pGrow (q.take k) ∧ pGrow (q.take k) ≤ 15600 := fun k => by
    have := pGrow_bd (q.take k) fun x hx => by
      obtain ⟨g1, g2, g3, g4, -, g6⟩ := h5.out x (List.mem_of_mem_take hx)
      exact ⟨g1, g2, vC_len _ g3, vC_len _ g4⟩
    rw [List.length_take] at this
    omega
  replace hgb := Lib.hid hgb
  replace eg := Lib.hid eg
  replace h10 := Lib.hid h10
  refine loop_by (X := Nat) (fun x => [.put 0 (.v false [.p RT 0]), .put 1 (.v false [.d (.slice .str) t]), .put 2 (.v false [.d (.slice tHk) q]), .put 4 (.v false [.d (.int .i64) g]), .put 11 (.v false [.d (.int .i64) lo]), .put 12 (.v false [.d (.int .i64) hi]), .put 13 (.v false [.d (.int .i64) (pGrow (q.take x))]), .put 38 (.v false [.d (.slice tHk) q]), .put 39 (.v false [.d (.int .i64) (q.length : Int)]), .put 40 (.v false [.d (.int .i64) (x : Int)]), .mark, .put 0 (.v false [.p RT 0])])
    (fun x => [.put RT (.bld 48 5 l)]) (fun x => x ≤ q.length) (fun x => q.length - x) 0 (Nat.zero_le _) ?_ ?_
  · (refine Wk.keep ?_ ?_ <;> repeat' (first | exact True.intro | refine And.intro rfl ?_ | refine And.intro (congrArg (fun z : Int => AV.v false [Lf.d (.int .i64) z]) (by first | omega | (simp only [Int.natCast_add, List.length_cons, List.length_append, List.length_nil]; omega))) ?_ | refine And.intro ?_ ?_))
  intro x hx
  (try dsimp only)
  have bd := hgb.out x
  by_cases hxq : x < q.length
  · have hg := getD_at (a := q) tHk.dflt hxq
    obtain ⟨g1, g2, g3, g4, -, g6⟩ := h5.out _ (List.getElem_mem hxq)
    rw [← hg] at g1 g2 g3 g4 g6
    have g7 := vC_len _ g3
    have g8 := vC_len _ g4
    have es : pGrow (q.take (x + 1)) = pGrow (q.take x) + (((q.getD ((x : Int)).toNat tHk.dflt).2.2.length : Int) - ((q.getD ((x : Int)).toNat tHk.dflt).2.1.length : Int)) := by
      rw [List.take_add_one, List.getElem?_eq_getElem hxq, Option.toList_some, pGrow_append, ← hg]; simp [pGrow, hkGrow]
    replace hg := Lib.hid hg
    replace es := Lib.hid es
    (repeat' (first | (with_reducible refine Cend.go ?_) | (with_reducible refine Step.mk True.intro ?_) | (with_reducible refine Step.mk ?_ ?_; focus (((try simp only [true_and, and_true, and_self, kmin, kmax, decide_eq_true_eq, decide_eq_false_iff_not, castD_self, castL_self, List.length_cons, List.length_nil, List.length_append, Int.natCast_add] at *) <;> omega))) | (with_reducible refine Step.mk ?_ ?_) | (with_reducible refine Way.t1 ?_) | (with_reducible refine Way.f1 ?_) | ((with_reducible refine Way.dec (fun _ => ?_) (fun _ => ?_)) <;> try (exfalso; omega)) | (with_reducible refine Way.nt ?_) | (with_reducible refine Way.mk (fun _ => ?_) (fun _ => ?_)) | (with_reducible refine Drawn.mk (by kernel_rfl) ?_) | (refine Run.mk ?_)))
    refine Back.by (x + 1) ?_ hxq ?_
    · rw [es.out]
      (refine Wk.keep ?_ ?_ <;> repeat' (first | exact True.intro | refine And.intro rfl ?_ | refine And.intro (congrArg (fun z : Int => AV.v false [Lf.d (.int .i64) z]) (by first | omega | (simp only [Int.natCast_add, List.length_cons, List.length_append, List.length_nil]; omega))) ?_ | refine And.intro ?_ ?_))
    · show q.length - (x + 1) < q.length - x; omega
  · have et : q.take x = q := List.take_of_length_le (by omega)
    rw [et] at bd ⊢
    clear et hx
    have s1 := side_len lo (hi - lo) (by omega) (by omega) (by omega) (by omega)
    have s2 := side_len (lo + g) (hi - lo + pGrow q) (by omega) (by omega) (by omega) (by omega)
    have el : (l ++ grp t c g q).length ≤ 14000000 := by rw [List.length_append]; omega
    rw [eg.out, ← List.append_assoc] at el
    (repeat' (first | (with_reducible refine Cend.go ?_) | (with_reducible refine Step.mk True.intro ?_) | (with_reducible refine Step.mk ?_ ?_; focus (((try simp only [true_and, and_true, and_self, kmin, kmax, decide_eq_true_eq, decide_eq_false_iff_not, castD_self, castL_self, List.length_cons, List.length_nil, List.length_append, Int.natCast_add] at *) <;> omega))) | (with_reducible refine Step.mk ?_ ?_) | (with_reducible refine Way.t1 ?_) | (with_reducible refine Way.f1 ?_) | ((with_reducible refine Way.dec (fun _ => ?_) (fun _ => ?_)) <;> try (exfalso; omega)) | (with_reducible refine Way.nt ?_) | (with_reducible refine Way.mk (fun _ => ?_) (fun _ => ?_)) | (with_reducible refine Drawn.mk (by kernel_rfl) ?_) | (refine Run.mk ?_)))
    · show l.length + 4 ≤ 1000000000
      omega
    · show (l ++ [64, 64, 32, 45] ++ side lo (hi - lo)).length + 2 ≤ 1000000000
      simp only [List.length_append, List.length_cons, List.length_nil]
      omega
    · show (l ++ [64, 64, 32, 45] ++ side lo (hi - lo) ++ [32, 43] ++ side (lo + g) (hi - lo + pGrow q)).length + 4 ≤ 1000000000
      simp only [List.length_append, List.length_cons, List.length_nil]
      omega
    have eT : l ++ grp t c g q = (l ++ [64, 64, 32, 45] ++ side lo (hi - lo) ++ [32, 43] ++ side (lo + g) (hi - lo + pGrow q) ++ [32, 64, 64, 10]) ++ gb t hi lo q := by
      rw [eg.out]
      simp only [List.append_assoc]
    have eTl : (l ++ grp t c g q).length ≤ 14000000 := by rw [List.length_append]; omega
    clear el s1 s2
    replace eT := Lib.hid eT
    refine loop_by (X := Nat × Int × List UInt8) (fun x => [.put 0 (.v false [.p RT 0]), .put 1 (.v false [.d (.slice .str) t]), .put 4 (.v false [.d (.int .i64) g]), .put 12 (.v false [.d (.int .i64) hi]), .put 13 (.v false [.d (.int .i64) (pGrow q)]), .put 16 (.v false [.d (.int .i64) x.2.1]), .put 72 (.v false [.d (.slice tHk) q]), .put 73 (.v false [.d (.int .i64) (q.length : Int)]), .put 74 (.v false [.d (.int .i64) (x.1 : Int)]), .mark, .put 0 (.v false [.p RT 0])])
      (fun x => [.put RT (.bld 48 5 x.2.2)]) (fun x => x.1 ≤ q.length ∧ rawOk t hi x.2.1 (q.drop x.1) ∧ l ++ grp t c g q = x.2.2 ++ gb t hi x.2.1 (q.drop x.1)) (fun x => q.length - x.1) (0, lo, _) ⟨Nat.zero_le _, h10.out, eT.out⟩ ?_ ?_
    · (refine Wk.keep ?_ ?_ <;> repeat' (first | exact True.intro | refine And.intro rfl ?_ | refine And.intro (congrArg (fun z : Int => AV.v false [Lf.d (.int .i64) z]) (by first | omega | (simp only [Int.natCast_add, List.length_cons, List.length_append, List.length_nil]; omega))) ?_ | refine And.intro ?_ ?_))
    rintro ⟨i, a, B⟩ ⟨hi1, hr, hB⟩
    dsimp only at hi1 hr hB ⊢
    by_cases hiq : i < q.length
    · have hg := getD_at (a := q) tHk.dflt hiq
      obtain ⟨r1, r2, r3, r4, r5, r6⟩ := rawOk_step hiq hr
      obtain ⟨g1, g2, g3, g4, -, g6⟩ := h5.out _ (List.getElem_mem hiq)
      rw [List.drop_eq_getElem_cons hiq] at hB
      rw [← hg] at g1 g2 g3 g4 g6 r2 r3 r4 r5 r6 hB
      have hB : l ++ grp t c g q = B ++ (pfx 32 (sub t a (q.getD ((i : Int)).toNat tHk.dflt).1) ++ pfx 45 (q.getD ((i : Int)).toNat tHk.dflt).2.1 ++ pfx 43 (q.getD ((i : Int)).toNat tHk.dflt).2.2 ++ gb t hi (hkEnd (q.getD ((i : Int)).toNat tHk.dflt)) (q.drop (i + 1))) := hB
      have hBl := congrArg List.length hB
      simp only [List.length_append] at hBl eTl
      replace hg := Lib.hid hg
      replace hB := Lib.hid hB
      replace r6 := Lib.hid r6
      (repeat' (first | (with_reducible refine Cend.go ?_) | (with_reducible refine Step.mk True.intro ?_) | (with_reducible refine Step.mk ?_ ?_; focus (((try simp only [true_and, and_true, and_self, kmin, kmax, decide_eq_true_eq, decide_eq_false_iff_not, castD_self, castL_self, List.length_cons, List.length_nil, List.length_append, Int.natCast_add] at *) <;> omega))) | (with_reducible refine Step.mk ?_ ?_) | (with_reducible refine Way.t1 ?_) | (with_reducible refine Way.f1 ?_) | ((with_reducible refine Way.dec (fun _ => ?_) (fun _ => ?_)) <;> try (exfalso; omega)) | (with_reducible refine Way.nt ?_) | (with_reducible refine Way.mk (fun _ => ?_) (fun _ => ?_)) | (with_reducible refine Drawn.mk (by kernel_rfl) ?_) | (refine Run.mk ?_)))
      · show B.length + (pfx 32 (sub t a (q.getD ((i : Int)).toNat tHk.dflt).1)).length ≤ 100000000
        omega
      · show (B ++ pfx 32 (sub t a (q.getD ((i : Int)).toNat tHk.dflt).1)).length + (pfx 45 (q.getD ((i : Int)).toNat tHk.dflt).2.1).length ≤ 100000000
        rw [List.length_append]
        omega
      · show (B ++ pfx 32 (sub t a (q.getD ((i : Int)).toNat tHk.dflt).1) ++ pfx 45 (q.getD ((i : Int)).toNat tHk.dflt).2.1).length + (pfx 43 (q.getD ((i : Int)).toNat tHk.dflt).2.2).length ≤ 100000000
        rw [List.length_append, List.length_append]
        omega
      refine Back.by (i + 1, hkEnd (q.getD ((i : Int)).toNat tHk.dflt), B ++ pfx 32 (sub t a (q.getD ((i : Int)).toNat tHk.dflt).1) ++ pfx 45 (q.getD ((i : Int)).toNat tHk.dflt).2.1 ++ pfx 43 (q.getD ((i : Int)).toNat tHk.dflt).2.2) ?_ ?_ ?_
      · (refine Wk.keep ?_ ?_ <;> repeat' (first | exact True.intro | refine And.intro rfl ?_ | refine And.intro (congrArg (fun z : Int => AV.v false [Lf.d (.int .i64) z]) (by first | omega | (simp only [Int.natCast_add, List.length_cons, List.length_append, List.length_nil]; omega))) ?_ | refine And.intro ?_ ?_))
      · refine ⟨hiq, r6.out, ?_⟩
        dsimp only
        rw [hB.out]
        simp only [List.append_assoc]
      · show q.length - (i + 1) < q.length - i; omega
    · have en : q.drop i = [] := List.drop_eq_nil_of_le (by omega)
      rw [en] at hr hB
      have hB : l ++ grp t c g q = B ++ pfx 32 (sub t a hi) := hB
      have hBl := congrArg List.length hB
      rw [show (B ++ pfx 32 (sub t a hi)).length = B.length + (pfx 32 (sub t a hi)).length from List.length_append] at hBl
      have hr : 0 ≤ a ∧ a ≤ hi ∧ hi ≤ (t.length : Int) := hr
      replace hB := Lib.hid hB
      clear en
      obtain ⟨r1, r2, r3⟩ := hr
      (repeat' (first | (with_reducible refine Cend.go ?_) | (with_reducible refine Step.mk True.intro ?_) | (with_reducible refine Step.mk ?_ ?_; focus (((try simp only [true_and, and_true, and_self, kmin, kmax, decide_eq_true_eq, decide_eq_false_iff_not, castD_self, castL_self, List.length_cons, List.length_nil, List.length_append, Int.natCast_add] at *) <;> omega))) | (with_reducible refine Step.mk ?_ ?_) | (with_reducible refine Way.t1 ?_) | (with_reducible refine Way.f1 ?_) | ((with_reducible refine Way.dec (fun _ => ?_) (fun _ => ?_)) <;> try (exfalso; omega)) | (with_reducible refine Way.nt ?_) | (with_reducible refine Way.mk (fun _ => ?_) (fun _ => ?_)) | (with_reducible refine Drawn.mk (by kernel_rfl) ?_) | (refine Run.mk ?_)))
      · show B.length + (pfx (UInt8.ofNat (Int.toNat 32)) (sub t a hi)).length ≤ 100000000
        show B.length + (pfx 32 (sub t a hi)).length ≤ 100000000
        omega
      · refine Ret.mk ⟨rfl, rfl, ?_⟩
        rw [hB.out]; rfl
end Go.Proofs.YtppmhjaooiameaaDoor
