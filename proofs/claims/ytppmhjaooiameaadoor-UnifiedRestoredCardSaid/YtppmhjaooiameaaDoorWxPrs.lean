/- The walk of unified.Parse on the text of a formatted patch. -/
import Derived.Test.YtppmhjaooiameaaDoorWxPrsI
namespace Go.Proofs.YtppmhjaooiameaaDoor
open Go.RowKit
set_option maxRecDepth 20000
set_option maxHeartbeats 4000000
set_option linter.unusedSimpArgs false
def sp_Parse (E : List Ev) (p : List Hk) : SpecF := pureSp false [.str] (fun (s', _) => s' = bs (evT E) ∧ (evT E).length ≤ 4096 ∧ pOk E 0 0 0 0 false none ∧ pCol E 0 none = p ∧ pC p = 0) (fun _ => .tu [(true, [.d (.slice tHk) p]), (true, [.d (.int .i64) 0, .d (.int .i64) 0])])
attribute [local irreducible] nmN nmR cutS trS
theorem Parse_sp (E0 : List Ev) (p : List Hk) : SpFact 15 (sp_Parse E0 p) := by
  refine ⟨⟨Tryd.f15, rfl, rfl, rfl, pureSp_okF (env1_fine (sp := [(37, sp_Cut), (62, sp_CutPrefix), (63, sp_number), (40, sp_PSecond), (64, sp_place)]) (eq := [(27, true)])
    (inl := [(38, Tryd.f38), (53, Tryd.f53), (54, Tryd.f54), (65, Tryd.f65), (55, Tryd.f55), (56, Tryd.f56), (39, Tryd.f39), (66, Tryd.f66)]) (cl := [])
    ⟨Cut_sp, CutPrefix_sp, number_sp, PSecond_sp, place_sp, True.intro⟩ ⟨eq_fault, True.intro⟩ ⟨⟨rfl, rfl, rfl⟩, ⟨rfl, rfl, rfl⟩, ⟨rfl, rfl, rfl⟩, ⟨rfl, rfl, rfl⟩, ⟨rfl, rfl, rfl⟩, ⟨rfl, rfl, rfl⟩, ⟨rfl, rfl, rfl⟩, ⟨rfl, rfl, rfl⟩, True.intro⟩) rfl (fun ⟨_, _⟩ _ => rfl) ?_⟩, pureSp_loc _ _ _ _⟩
  rintro ⟨s, u⟩ - ⟨rfl, hl, hok, hcol, hp⟩
  have hl0 : E0.length ≤ (evT E0).length := by
    clear hok hcol hl
    induction E0 with
    | nil => exact Nat.zero_le _
    | cons e E ih => rw [evT_cons, List.length_append, List.length_append, List.length_cons, List.length_singleton]; omega
  have hs0 : (bs (evT E0)).size ≤ 4096 := by rw [bs_size]; exact hl
  replace hok := Lib.hid hok
  replace hcol := Lib.hid hcol
  replace hp := Lib.hid hp
  (refine fnM_of rfl rfl rfl rfl ?_; dsimp only [params, argAV, Ty.leaves, Ty.isSt])
  (repeat' (first | (with_reducible refine Cend.go ?_) | (with_reducible refine Step.mk True.intro ?_) | (with_reducible refine Step.mk ?_ ?_; focus (((try simp only [true_and, and_true, and_self, kmin, kmax, decide_eq_true_eq, decide_eq_false_iff_not, castD_self, castL_self, List.length_cons, List.length_nil, List.length_append, Int.natCast_add] at *) <;> omega))) | (with_reducible refine Step.mk ?_ ?_) | (with_reducible refine Way.t1 ?_) | (with_reducible refine Way.f1 ?_) | ((with_reducible refine Way.dec (fun _ => ?_) (fun _ => ?_)) <;> try (exfalso; omega)) | (with_reducible refine Way.nt ?_) | (with_reducible refine Way.mk (fun _ => ?_) (fun _ => ?_)) | (with_reducible refine Drawn.mk (by kernel_rfl) ?_) | (refine Run.mk ?_)))
  refine loop_by (X := PSt) (fun x => [.put 2 (.v false [.p 2 0]), .put 3 (.v false [.p 3 0]), .put 4 (.v false [.p 4 0]), .put 5 (.v false [.d (.int .i64) (x.k : Int)]), .put 6 (.v false [.d .str (bs (evT x.E))])])
    (fun x => prB ++ prH x.E x.a x.o x.n x.g x.ad x.D x.cu)
    (prI p) (fun x => x.E.length) ⟨E0, 0, 0, 0, 0, false, [], none, 0⟩ ⟨hok.out, hcol.out.symm, ⟨Int.le_refl 0, by show (0 : Int) ≤ 120 + 0; decide, Int.le_refl 0, by show (0 : Int) ≤ 120; decide, Int.le_refl 0, by show (0 : Int) ≤ 120; decide, by show -(0 : Int) ≤ 0; decide, by show (0 : Int) ≤ 0; decide⟩, by show 0 + E0.length ≤ 4096; omega, hl, Nat.le_refl _, Nat.le_refl _, Nat.le_refl _⟩ ?_ ?_
  · refine Wk.trans ?_ (prC_wk E0 0 0 0 0 false [])
    refine (Wk.nilbox 4 0 91 41 tHk (T := 70) (cs := [.nl, .d (.int .i64) 0, .d .bool false, .d (.int .i64) 0, .d (.int .i64) 0, .d (.int .i64) 0, .d (.int .i64) 0, .d .bool false]) rfl rfl rfl).trans ?_
    (refine Wk.keep ?_ ?_ <;> repeat' (first | exact True.intro | refine And.intro rfl ?_ | refine And.intro (congrArg (fun z : Int => AV.v false [Lf.d (.int .i64) z]) (by first | omega | (simp only [Int.natCast_add, List.length_cons, List.length_append, List.length_nil]; omega))) ?_ | refine And.intro ?_ ?_))
  rintro ⟨E, a, o, n, g, ad, D, cu, k⟩ hI
  have hI0 := hI
  replace hI := Lib.hid hI
  obtain ⟨i1, i2, ⟨ia1, ia2, io1, io2, in1, in2, ig1, ig2⟩, i3, i4, i5, i6, i7⟩ := hI0
  dsimp only at i1 i2 ia1 ia2 io1 io2 in1 in2 ig1 ig2 i3 i4 i5 i6 i7 ⊢
  cases E with
  | nil =>
    obtain ⟨e1, e2⟩ := i1
    subst e1; subst e2
    have ep : p = dcu D cu := i2.trans (dcu_eq D cu).symm
    have hv : (decide (pC p = 0) && decide ((if pC p = 0 then 0 else (-2 : Int)) = 0)) = true := by rw [hp.out]; rfl
    rw [ep] at hv ⊢
    replace hv := Lib.hid hv
    have hz : bs (evT []) = ⟨#[]⟩ := rfl
    dsimp only [prH, prZ, prB, List.cons_append, List.nil_append]
    (repeat' (first | (with_reducible refine Cend.go ?_) | (with_reducible refine Step.mk True.intro ?_) | (with_reducible refine Step.mk ?_ ?_; focus (((try simp only [true_and, and_true, and_self, kmin, kmax, decide_eq_true_eq, decide_eq_false_iff_not, castD_self, castL_self, List.length_cons, List.length_nil, List.length_append, Int.natCast_add] at *) <;> omega))) | (with_reducible refine Step.mk ?_ ?_) | (with_reducible refine Way.t1 ?_) | (with_reducible refine Way.f1 ?_) | ((with_reducible refine Way.dec (fun zz => ?_) (fun zz => ?_)) <;> (try simp only [castD_self, castL_self] at zz) <;> try (exfalso; first | omega | contradiction)) | (with_reducible refine Way.nt ?_) | ((with_reducible refine Way.mk (fun _ => ?_) (fun _ => ?_)) <;> try (exfalso; rename_i hw; first | exact Bool.noConfusion ((Go.RowKit.Hid.out hv).symm.trans hw) | exact Bool.noConfusion (hw.symm.trans (Go.RowKit.Hid.out hv)))) | (with_reducible refine Drawn.mk (by kernel_rfl) ?_) | (refine Run.mk ?_)))
    refine Ret.mk ?_
    exact ⟨⟨rfl, .same, True.intro⟩, ⟨rfl, .same, .same, True.intro⟩, True.intro⟩
  | cons e E =>
    have hne : ¬ bs (evT (e :: E)) = ⟨#[]⟩ := by
      intro q
      have := congrArg ByteArray.size q
      rw [bs_size, evT_cons, List.length_append, List.length_append, List.length_singleton] at this
      have h2 : (⟨#[]⟩ : ByteArray).size = 0 := rfl
      omega
    cases e with
    | ln s x =>
      have hL : lineC x = 0 := i1.1
      have hcut := cut_ev (E := E) (ln_not (s := s) hL)
      have hcv : (cutS (bs (evT (.ln s x :: E))) ⟨#[10]⟩).2.2 = true := by rw [hcut]
      have hcm := congrArg (fun z => AV.v false [Lf.d .str (bs z)]) (show (cutS (bs (evT (.ln s x :: E))) ⟨#[10]⟩).2.1 = evT E by rw [hcut])
      have hcl : bs (cutS (bs (evT (.ln s x :: E))) ⟨#[10]⟩).1 = bs (mkE s :: x.data.toList) := by rw [hcut]; rfl
      have hne2 : ¬ bs (cutS (bs (evT (.ln s x :: E))) ⟨#[10]⟩).1 = ⟨#[]⟩ := by
        intro q
        rw [hcl] at q
        have := congrArg ByteArray.size q
        rw [bs_size, List.length_cons] at this
        exact absurd this (by show ¬ (_ + 1 = 0); omega)
      have hsz : (bs (evT (.ln s x :: E))).size ≤ 4096 := by rw [bs_size]; exact i4
      have hcs : 0 < (bs (cutS (bs (evT (.ln s x :: E))) ⟨#[10]⟩).1).size := by rw [hcl, bs_size, List.length_cons]; omega
      replace hcut := Lib.hid hcut
      replace hcv := Lib.hid hcv
      replace hcm := Lib.hid hcm
      replace hcl := Lib.hid hcl
      have hf := Lib.hid (rfl : true = true)
      rcases ln_kind hI.out with rfl | rfl | rfl
      · obtain ⟨⟨h1, h2, h3⟩, hnx⟩ := keep_next hI.out
        have hb0 : byteAt (bs (cutS (bs (evT (.ln 0 x :: E))) ⟨#[10]⟩).1) (Int.toNat 0) = 32 := by rw [hcl.out]; rfl
        replace hnx := Lib.hid hnx
        clear i1 i2
        rcases cu with _ | ⟨a0, co, cn⟩
        · dsimp only [prH, prC, prB, List.cons_append, List.nil_append]
          (repeat' (first | (with_reducible refine Cend.go ?_) | (with_reducible refine Step.mk True.intro ?_) | (with_reducible refine Step.mk ?_ ?_; focus (((try simp only [true_and, and_true, and_self, kmin, kmax, decide_eq_true_eq, decide_eq_false_iff_not, castD_self, castL_self, List.length_cons, List.length_nil, List.length_append, Int.natCast_add] at *) <;> omega))) | (with_reducible refine Step.mk ?_ ?_) | (with_reducible refine Way.t1 ?_) | (with_reducible refine Way.f1 ?_) | ((with_reducible refine Way.dec (fun zz => ?_) (fun zz => ?_)) <;> (try simp only [castD_self, castL_self] at zz) <;> try (exfalso; first | omega | contradiction)) | (with_reducible refine Way.nt ?_) | ((with_reducible refine Way.mk (fun _ => ?_) (fun _ => ?_)) <;> try (exfalso; rename_i hw; first | exact Bool.noConfusion ((Go.RowKit.Hid.out hf).symm.trans hw) | exact Bool.noConfusion (hw.symm.trans (Go.RowKit.Hid.out hf)))) | (with_reducible refine Drawn.mk (by kernel_rfl) ?_) | (refine Run.mk ?_)))
          · exact ⟨hcv.out, by have := hsz; show (bs (evT (.ln 0 x :: E))).size < 4294967281; omega⟩
          refine Back.by ⟨E, a + 1, o - 1, n - 1, g, false, D, none, k + 1⟩ ?_ ?_ ?_
          · refine Wk.trans ?_ (prC_wk E _ _ _ _ _ _)
            (refine Wk.keep ?_ ?_ <;> repeat' (first | exact True.intro | refine And.intro rfl ?_ | refine And.intro (congrArg (fun z : Int => AV.v false [Lf.d (.int .i64) z]) (by first | omega | (simp only [Int.natCast_add, List.length_cons, List.length_append, List.length_nil]; omega))) ?_ | refine And.intro ?_ ?_))
            exact hcm.out
          · exact hnx.out
          · exact Nat.lt_succ_self _
        · dsimp only [prH, prO, prB, List.cons_append, List.nil_append]
          (repeat' (first | (with_reducible refine Cend.go ?_) | (with_reducible refine Step.mk True.intro ?_) | (with_reducible refine Step.mk ?_ ?_; focus (((try simp only [true_and, and_true, and_self, kmin, kmax, decide_eq_true_eq, decide_eq_false_iff_not, castD_self, castL_self, List.length_cons, List.length_nil, List.length_append, Int.natCast_add] at *) <;> omega))) | (with_reducible refine Step.mk ?_ ?_) | (with_reducible refine Way.t1 ?_) | (with_reducible refine Way.f1 ?_) | ((with_reducible refine Way.dec (fun zz => ?_) (fun zz => ?_)) <;> (try simp only [castD_self, castL_self] at zz) <;> try (exfalso; first | omega | contradiction)) | (with_reducible refine Way.nt ?_) | ((with_reducible refine Way.mk (fun _ => ?_) (fun _ => ?_)) <;> try (exfalso; rename_i hw; first | exact Bool.noConfusion ((Go.RowKit.Hid.out hf).symm.trans hw) | exact Bool.noConfusion (hw.symm.trans (Go.RowKit.Hid.out hf)))) | (with_reducible refine Drawn.mk (by kernel_rfl) ?_) | (refine Run.mk ?_)))
          · exact ⟨hcv.out, by have := hsz; show (bs (evT (.ln 0 x :: E))).size < 4294967281; omega⟩
          refine Back.by ⟨E, a + 1, o - 1, n - 1, g, false, D ++ [(a0, co, cn)], none, k + 1⟩ ?_ ?_ ?_
          · refine Wk.trans ?_ (prC_wk E _ _ _ _ _ _)
            refine (Wk.pack 91 (x := (a0, co, cn)) (l2 := []) (hl' := prB ++ [.put 4 (.box 70 [.o 91, .d (.int .i64) (a + 1), .d .bool false, .d (.int .i64) (o - 1), .d (.int .i64) (n - 1), .d (.int .i64) (a + 1), .d (.int .i64) g, .d .bool false])]) rfl rfl (by repeat' (first | exact True.intro | refine And.intro rfl ?_)) rfl rfl).trans ?_
            (refine Wk.keep ?_ ?_ <;> repeat' (first | exact True.intro | refine And.intro rfl ?_ | refine And.intro (congrArg (fun z : Int => AV.v false [Lf.d (.int .i64) z]) (by first | omega | (simp only [Int.natCast_add, List.length_cons, List.length_append, List.length_nil]; omega))) ?_ | refine And.intro ?_ ?_))
            exact hcm.out
          · exact hnx.out
          · exact Nat.lt_succ_self _
      · obtain ⟨⟨h1, h2, h3, h4⟩, hnx⟩ := del_next hI.out
        subst h4
        have hb0 : byteAt (bs (cutS (bs (evT (.ln 1 x :: E))) ⟨#[10]⟩).1) (Int.toNat 0) = 45 := by rw [hcl.out]; rfl
        have hy : (bs (cutS (bs (evT (.ln 1 x :: E))) ⟨#[10]⟩).1).extract (Int.toNat 1) (((bs (cutS (bs (evT (.ln 1 x :: E))) ⟨#[10]⟩).1).size : Int)).toNat = x := by rw [hcl.out]; exact line_tail _ _
        replace hy := Lib.hid hy
        replace hnx := Lib.hid hnx
        clear i1 i2
        rcases cu with _ | ⟨a0, co, cn⟩
        · dsimp only [prH, prC, prB, List.cons_append, List.nil_append]
          (repeat' (first | (with_reducible refine Cend.go ?_) | (with_reducible refine Step.mk True.intro ?_) | (with_reducible refine Step.mk ?_ ?_; focus (((try simp only [true_and, and_true, and_self, kmin, kmax, decide_eq_true_eq, decide_eq_false_iff_not, castD_self, castL_self, List.length_cons, List.length_nil, List.length_append, Int.natCast_add] at *) <;> omega))) | (with_reducible refine Step.mk ?_ ?_) | (with_reducible refine Way.t1 ?_) | (with_reducible refine Way.f1 ?_) | ((with_reducible refine Way.dec (fun zz => ?_) (fun zz => ?_)) <;> (try simp only [castD_self, castL_self] at zz) <;> try (exfalso; first | omega | contradiction)) | (with_reducible refine Way.nt ?_) | ((with_reducible refine Way.mk (fun _ => ?_) (fun _ => ?_)) <;> try (exfalso; rename_i hw; first | exact Bool.noConfusion ((Go.RowKit.Hid.out hf).symm.trans hw) | exact Bool.noConfusion (hw.symm.trans (Go.RowKit.Hid.out hf)))) | (with_reducible refine Drawn.mk (by kernel_rfl) ?_) | (refine Run.mk ?_)))
          · exact ⟨hcv.out, by have := hsz; show (bs (evT (.ln 1 x :: E))).size < 4294967281; omega⟩
          refine Back.by ⟨E, a + 1, o - 1, n, g - 1, false, D, some (a, [(bs (cutS (bs (evT (.ln 1 x :: E))) ⟨#[10]⟩).1).extract (Int.toNat 1) (((bs (cutS (bs (evT (.ln 1 x :: E))) ⟨#[10]⟩).1).size : Int)).toNat], []), k + 1⟩ ?_ ?_ ?_
          · refine Wk.trans ?_ (prO_wk E _ _ _ _ _ _ _)
            refine (Wk.nilrox 31078007020 2 93 9 .str rfl rfl rfl).trans ?_
            (refine Wk.ren [(91, 31078007020), (92, 31078014)] rfl ?_ ?_ <;> repeat' (first | exact True.intro | refine And.intro rfl ?_ | refine And.intro (congrArg (fun z : Int => AV.v false [Lf.d (.int .i64) z]) (by first | omega | (simp only [Int.natCast_add, List.length_cons, List.length_append, List.length_nil]; omega))) ?_ | refine And.intro ?_ ?_))
            exact hcm.out
          · exact hnx.out _ hy.out
          · exact Nat.lt_succ_self _
        · have i6 : co.length ≤ k := i6
          dsimp only [prH, prO, prB, List.cons_append, List.nil_append]
          (repeat' (first | (with_reducible refine Cend.go ?_) | (with_reducible refine Step.mk True.intro ?_) | (with_reducible refine Step.mk ?_ ?_; focus (((try simp only [true_and, and_true, and_self, kmin, kmax, decide_eq_true_eq, decide_eq_false_iff_not, castD_self, castL_self, List.length_cons, List.length_nil, List.length_append, Int.natCast_add] at *) <;> omega))) | (with_reducible refine Step.mk ?_ ?_) | (with_reducible refine Way.t1 ?_) | (with_reducible refine Way.f1 ?_) | ((with_reducible refine Way.dec (fun zz => ?_) (fun zz => ?_)) <;> (try simp only [castD_self, castL_self] at zz) <;> try (exfalso; first | omega | contradiction)) | (with_reducible refine Way.nt ?_) | ((with_reducible refine Way.mk (fun _ => ?_) (fun _ => ?_)) <;> try (exfalso; rename_i hw; first | exact Bool.noConfusion ((Go.RowKit.Hid.out hf).symm.trans hw) | exact Bool.noConfusion (hw.symm.trans (Go.RowKit.Hid.out hf)))) | (with_reducible refine Drawn.mk (by kernel_rfl) ?_) | (refine Run.mk ?_)))
          · exact ⟨hcv.out, by have := hsz; show (bs (evT (.ln 1 x :: E))).size < 4294967281; omega⟩
          refine Back.by ⟨E, a + 1, o - 1, n, g - 1, false, D, some (a0, co ++ [(bs (cutS (bs (evT (.ln 1 x :: E))) ⟨#[10]⟩).1).extract (Int.toNat 1) (((bs (cutS (bs (evT (.ln 1 x :: E))) ⟨#[10]⟩).1).size : Int)).toNat], cn), k + 1⟩ ?_ ?_ ?_
          · refine Wk.trans ?_ (prO_wk E _ _ _ _ _ _ _)
            (refine Wk.ren [(92, 31078014)] rfl ?_ ?_ <;> repeat' (first | exact True.intro | refine And.intro rfl ?_ | refine And.intro (congrArg (fun z : Int => AV.v false [Lf.d (.int .i64) z]) (by first | omega | (simp only [Int.natCast_add, List.length_cons, List.length_append, List.length_nil]; omega))) ?_ | refine And.intro ?_ ?_))
            exact hcm.out
          · exact hnx.out _ hy.out
          · exact Nat.lt_succ_self _
      · obtain ⟨⟨h1, h2, h3⟩, hnx⟩ := ins_next hI.out
        have hb0 : byteAt (bs (cutS (bs (evT (.ln 2 x :: E))) ⟨#[10]⟩).1) (Int.toNat 0) = 43 := by rw [hcl.out]; rfl
        have hy : (bs (cutS (bs (evT (.ln 2 x :: E))) ⟨#[10]⟩).1).extract (Int.toNat 1) (((bs (cutS (bs (evT (.ln 2 x :: E))) ⟨#[10]⟩).1).size : Int)).toNat = x := by rw [hcl.out]; exact line_tail _ _
        replace hy := Lib.hid hy
        replace hnx := Lib.hid hnx
        clear i1 i2
        rcases cu with _ | ⟨a0, co, cn⟩
        · dsimp only [prH, prC, prB, List.cons_append, List.nil_append]
          (repeat' (first | (with_reducible refine Cend.go ?_) | (with_reducible refine Step.mk True.intro ?_) | (with_reducible refine Step.mk ?_ ?_; focus (((try simp only [true_and, and_true, and_self, kmin, kmax, decide_eq_true_eq, decide_eq_false_iff_not, castD_self, castL_self, List.length_cons, List.length_nil, List.length_append, Int.natCast_add] at *) <;> omega))) | (with_reducible refine Step.mk ?_ ?_) | (with_reducible refine Way.t1 ?_) | (with_reducible refine Way.f1 ?_) | ((with_reducible refine Way.dec (fun zz => ?_) (fun zz => ?_)) <;> (try simp only [castD_self, castL_self] at zz) <;> try (exfalso; first | omega | contradiction)) | (with_reducible refine Way.nt ?_) | ((with_reducible refine Way.mk (fun _ => ?_) (fun _ => ?_)) <;> try (exfalso; rename_i hw; first | exact Bool.noConfusion ((Go.RowKit.Hid.out hf).symm.trans hw) | exact Bool.noConfusion (hw.symm.trans (Go.RowKit.Hid.out hf)))) | (with_reducible refine Drawn.mk (by kernel_rfl) ?_) | (refine Run.mk ?_)))
          · exact ⟨hcv.out, by have := hsz; show (bs (evT (.ln 2 x :: E))).size < 4294967281; omega⟩
          refine Back.by ⟨E, a, o, n - 1, g + 1, true, D, some (a, [], [(bs (cutS (bs (evT (.ln 2 x :: E))) ⟨#[10]⟩).1).extract (Int.toNat 1) (((bs (cutS (bs (evT (.ln 2 x :: E))) ⟨#[10]⟩).1).size : Int)).toNat]), k + 1⟩ ?_ ?_ ?_
          · refine Wk.trans ?_ (prO_wk E _ _ _ _ _ _ _)
            refine (Wk.nilrox 31105007020 1 92 9 .str rfl rfl rfl).trans ?_
            (refine Wk.ren [(91, 31105007020), (93, 31105014)] rfl ?_ ?_ <;> repeat' (first | exact True.intro | refine And.intro rfl ?_ | refine And.intro (congrArg (fun z : Int => AV.v false [Lf.d (.int .i64) z]) (by first | omega | (simp only [Int.natCast_add, List.length_cons, List.length_append, List.length_nil]; omega))) ?_ | refine And.intro ?_ ?_))
            exact hcm.out
          · exact hnx.out _ hy.out
          · exact Nat.lt_succ_self _
        · have i7 : cn.length ≤ k := i7
          dsimp only [prH, prO, prB, List.cons_append, List.nil_append]
          (repeat' (first | (with_reducible refine Cend.go ?_) | (with_reducible refine Step.mk True.intro ?_) | (with_reducible refine Step.mk ?_ ?_; focus (((try simp only [true_and, and_true, and_self, kmin, kmax, decide_eq_true_eq, decide_eq_false_iff_not, castD_self, castL_self, List.length_cons, List.length_nil, List.length_append, Int.natCast_add] at *) <;> omega))) | (with_reducible refine Step.mk ?_ ?_) | (with_reducible refine Way.t1 ?_) | (with_reducible refine Way.f1 ?_) | ((with_reducible refine Way.dec (fun zz => ?_) (fun zz => ?_)) <;> (try simp only [castD_self, castL_self] at zz) <;> try (exfalso; first | omega | contradiction)) | (with_reducible refine Way.nt ?_) | ((with_reducible refine Way.mk (fun _ => ?_) (fun _ => ?_)) <;> try (exfalso; rename_i hw; first | exact Bool.noConfusion ((Go.RowKit.Hid.out hf).symm.trans hw) | exact Bool.noConfusion (hw.symm.trans (Go.RowKit.Hid.out hf)))) | (with_reducible refine Drawn.mk (by kernel_rfl) ?_) | (refine Run.mk ?_)))
          · exact ⟨hcv.out, by have := hsz; show (bs (evT (.ln 2 x :: E))).size < 4294967281; omega⟩
          refine Back.by ⟨E, a, o, n - 1, g + 1, true, D, some (a0, co, cn ++ [(bs (cutS (bs (evT (.ln 2 x :: E))) ⟨#[10]⟩).1).extract (Int.toNat 1) (((bs (cutS (bs (evT (.ln 2 x :: E))) ⟨#[10]⟩).1).size : Int)).toNat]), k + 1⟩ ?_ ?_ ?_
          · refine Wk.trans ?_ (prO_wk E _ _ _ _ _ _ _)
            (refine Wk.ren [(93, 31105014)] rfl ?_ ?_ <;> repeat' (first | exact True.intro | refine And.intro rfl ?_ | refine And.intro (congrArg (fun z : Int => AV.v false [Lf.d (.int .i64) z]) (by first | omega | (simp only [Int.natCast_add, List.length_cons, List.length_append, List.length_nil]; omega))) ?_ | refine And.intro ?_ ?_))
            exact hcm.out
          · exact hnx.out _ hy.out
          · exact Nat.lt_succ_self _
    | hd la lk lb lm =>
      obtain ⟨j1, j2, ⟨j3, j4, j5, j6, j7, j8, j9⟩, j10, j11, j12⟩ := i1
      subst j1; subst j2
      have hq : 0 ≤ la ∧ 0 ≤ lb ∧ 0 ≤ lk ∧ 0 ≤ lm ∧ la + lk ≤ 120 ∧ lb + lm ≤ 120 := ⟨j3, j4, j5, j6, j7, j8⟩
      have hF := hd_facts E hq
      have hsz : (bs (evT (.hd la lk lb lm :: E))).size ≤ 4096 := by rw [bs_size]; exact i4
      replace hF := Lib.hid hF
      replace hq := Lib.hid hq
      replace j12 := Lib.hid j12
      replace i2 := Lib.hid i2
      have hf := Lib.hid (rfl : true = true)
      rcases cu with _ | ⟨a0, co, cn⟩
      · dsimp only [prH, prC, prB, List.cons_append, List.nil_append]
        (repeat' (first | (with_reducible refine Cend.go ?_) | (with_reducible refine Step.mk True.intro ?_) | (with_reducible refine Step.mk ?_ ?_; focus (((try simp only [true_and, and_true, and_self, kmin, kmax, decide_eq_true_eq, decide_eq_false_iff_not, castD_self, castL_self, List.length_cons, List.length_nil, List.length_append, Int.natCast_add] at *) <;> omega))) | (with_reducible refine Step.mk ?_ ?_) | (with_reducible refine Way.t1 ?_) | (with_reducible refine Way.f1 ?_) | ((with_reducible refine Way.dec (fun zz => ?_) (fun zz => ?_)) <;> (try simp only [castD_self, castL_self] at zz) <;> try (exfalso; first | omega | contradiction)) | (with_reducible refine Way.nt ?_) | ((with_reducible refine Way.mk (fun _ => ?_) (fun _ => ?_)) <;> try (exfalso; rename_i hw; first | exact Bool.noConfusion ((Go.RowKit.Hid.out hf).symm.trans hw) | exact Bool.noConfusion (hw.symm.trans (Go.RowKit.Hid.out hf)))) | (with_reducible refine Drawn.mk (by kernel_rfl) ?_) | (refine Run.mk ?_)))
        · exact ⟨hF.out.cut, by have := hsz; show (bs (evT (.hd la lk lb lm :: E))).size < 4294967281; omega⟩
        · exact hF.out.pfx
        show LoopG (cH 3 _) _ _ _ _ _ _ _
        refine loop_by (X := Nat) (fun i => [.put 20 (.v false [.d (.int .i64) (i : Int)]), .put 19 (.v true [.d .str ⟨#[44]⟩, .d .str ⟨#[32, 43]⟩, .d .str ⟨#[44]⟩, .d .str ⟨#[32, 64, 64]⟩]), .put 7 (.v false [.p 31018007 0]), .put 6 (.v false [.d .bool true]), .put 5 (.v false [.d .str (hrs (hdS (.hd la lk lb lm :: E)) i)]), .put 4 (.v false [.d .bool false]), .put 0 (.v false [.p 4 0]), .mark, .put 0 (.v false [.p 4 0]), .mark, .put 2 (.v false [.p 2 0]), .put 3 (.v false [.p 3 0]), .put 4 (.v false [.p 4 0]), .put 5 (.v false [.d (.int .i64) (k : Int)]), .put 8 (.v false [.d .str (bs (cutS (bs (evT (.hd la lk lb lm :: E))) ⟨#[10]⟩).2.1)]), .put 28 (.v false [.d .bool false])])
          (fun i => [.put 31018007 (.box 98 [.d (.int .i64) (hc0 (hdS (.hd la lk lb lm :: E)) i), .d (.int .i64) (hc1 (hdS (.hd la lk lb lm :: E)) i), .d (.int .i64) (hc2 (hdS (.hd la lk lb lm :: E)) i), .d (.int .i64) (hc3 (hdS (.hd la lk lb lm :: E)) i)]), .put 2 (.box 25 [.nl]), .put 3 (.box 27 [.d (.int .i64) 0, .d (.int .i64) 0]), .put 4 (.box 70 [.o 91, .d (.int .i64) a, .d .bool false, .d (.int .i64) 0, .d (.int .i64) 0, .d (.int .i64) a, .d (.int .i64) g, .d .bool ad]), .put 91 (.row 41 tHk D)])
          (fun i => i ≤ 4) (fun i => 4 - i) 0 (by decide) ?_ ?_
        · (refine Wk.keep ?_ ?_ <;> repeat' (first | exact True.intro | refine And.intro rfl ?_ | refine And.intro (congrArg (fun z : Int => AV.v false [Lf.d (.int .i64) z]) (by first | omega | (simp only [Int.natCast_add, List.length_cons, List.length_append, List.length_nil]; omega))) ?_ | refine And.intro ?_ ?_))
        intro i hi
        rcases (show i = 0 ∨ i = 1 ∨ i = 2 ∨ i = 3 ∨ i = 4 by omega) with rfl | rfl | rfl | rfl | rfl
        · dsimp only
          (repeat' (first | (with_reducible refine Cend.go ?_) | (with_reducible refine Step.mk True.intro ?_) | (with_reducible refine Step.mk ?_ ?_; focus (((try simp only [true_and, and_true, and_self, kmin, kmax, decide_eq_true_eq, decide_eq_false_iff_not, castD_self, castL_self, List.length_cons, List.length_nil, List.length_append, Int.natCast_add] at *) <;> omega))) | (with_reducible refine Step.mk ?_ ?_) | (with_reducible refine Way.t1 ?_) | (with_reducible refine Way.f1 ?_) | ((with_reducible refine Way.dec (fun _ => ?_) (fun _ => ?_)) <;> try (exfalso; omega)) | (with_reducible refine Way.nt ?_) | (with_reducible refine Way.mk (fun _ => ?_) (fun _ => ?_)) | (with_reducible refine Drawn.mk (by kernel_rfl) ?_) | (refine Run.mk ?_)))
          · exact ⟨(hF.out.ok 0 (by decide)).1, Nat.lt_of_le_of_lt (hF.out.ok 0 (by decide)).2 (by decide)⟩
          · refine Back.by 1 ?_ (by decide) (by decide)
            (refine Wk.keep ?_ ?_ <;> repeat' (first | exact True.intro | refine And.intro rfl ?_ | refine And.intro (congrArg (fun z : Int => AV.v false [Lf.d (.int .i64) z]) (by first | omega | (simp only [Int.natCast_add, List.length_cons, List.length_append, List.length_nil]; omega))) ?_ | refine And.intro ?_ ?_))
        · dsimp only
          (repeat' (first | (with_reducible refine Cend.go ?_) | (with_reducible refine Step.mk True.intro ?_) | (with_reducible refine Step.mk ?_ ?_; focus (((try simp only [true_and, and_true, and_self, kmin, kmax, decide_eq_true_eq, decide_eq_false_iff_not, castD_self, castL_self, List.length_cons, List.length_nil, List.length_append, Int.natCast_add] at *) <;> omega))) | (with_reducible refine Step.mk ?_ ?_) | (with_reducible refine Way.t1 ?_) | (with_reducible refine Way.f1 ?_) | ((with_reducible refine Way.dec (fun _ => ?_) (fun _ => ?_)) <;> try (exfalso; omega)) | (with_reducible refine Way.nt ?_) | (with_reducible refine Way.mk (fun _ => ?_) (fun _ => ?_)) | (with_reducible refine Drawn.mk (by kernel_rfl) ?_) | (refine Run.mk ?_)))
          · exact ⟨(hF.out.ok 1 (by decide)).1, Nat.lt_of_le_of_lt (hF.out.ok 1 (by decide)).2 (by decide)⟩
          · refine Back.by 2 ?_ (by decide) (by decide)
            (refine Wk.keep ?_ ?_ <;> repeat' (first | exact True.intro | refine And.intro rfl ?_ | refine And.intro (congrArg (fun z : Int => AV.v false [Lf.d (.int .i64) z]) (by first | omega | (simp only [Int.natCast_add, List.length_cons, List.length_append, List.length_nil]; omega))) ?_ | refine And.intro ?_ ?_))
        · dsimp only
          (repeat' (first | (with_reducible refine Cend.go ?_) | (with_reducible refine Step.mk True.intro ?_) | (with_reducible refine Step.mk ?_ ?_; focus (((try simp only [true_and, and_true, and_self, kmin, kmax, decide_eq_true_eq, decide_eq_false_iff_not, castD_self, castL_self, List.length_cons, List.length_nil, List.length_append, Int.natCast_add] at *) <;> omega))) | (with_reducible refine Step.mk ?_ ?_) | (with_reducible refine Way.t1 ?_) | (with_reducible refine Way.f1 ?_) | ((with_reducible refine Way.dec (fun _ => ?_) (fun _ => ?_)) <;> try (exfalso; omega)) | (with_reducible refine Way.nt ?_) | (with_reducible refine Way.mk (fun _ => ?_) (fun _ => ?_)) | (with_reducible refine Drawn.mk (by kernel_rfl) ?_) | (refine Run.mk ?_)))
          · exact ⟨(hF.out.ok 2 (by decide)).1, Nat.lt_of_le_of_lt (hF.out.ok 2 (by decide)).2 (by decide)⟩
          · refine Back.by 3 ?_ (by decide) (by decide)
            (refine Wk.keep ?_ ?_ <;> repeat' (first | exact True.intro | refine And.intro rfl ?_ | refine And.intro (congrArg (fun z : Int => AV.v false [Lf.d (.int .i64) z]) (by first | omega | (simp only [Int.natCast_add, List.length_cons, List.length_append, List.length_nil]; omega))) ?_ | refine And.intro ?_ ?_))
        · dsimp only
          (repeat' (first | (with_reducible refine Cend.go ?_) | (with_reducible refine Step.mk True.intro ?_) | (with_reducible refine Step.mk ?_ ?_; focus (((try simp only [true_and, and_true, and_self, kmin, kmax, decide_eq_true_eq, decide_eq_false_iff_not, castD_self, castL_self, List.length_cons, List.length_nil, List.length_append, Int.natCast_add] at *) <;> omega))) | (with_reducible refine Step.mk ?_ ?_) | (with_reducible refine Way.t1 ?_) | (with_reducible refine Way.f1 ?_) | ((with_reducible refine Way.dec (fun _ => ?_) (fun _ => ?_)) <;> try (exfalso; omega)) | (with_reducible refine Way.nt ?_) | (with_reducible refine Way.mk (fun _ => ?_) (fun _ => ?_)) | (with_reducible refine Drawn.mk (by kernel_rfl) ?_) | (refine Run.mk ?_)))
          · exact ⟨(hF.out.ok 3 (by decide)).1, Nat.lt_of_le_of_lt (hF.out.ok 3 (by decide)).2 (by decide)⟩
          · refine Back.by 4 ?_ (by decide) (by decide)
            (refine Wk.keep ?_ ?_ <;> repeat' (first | exact True.intro | refine And.intro rfl ?_ | refine And.intro (congrArg (fun z : Int => AV.v false [Lf.d (.int .i64) z]) (by first | omega | (simp only [Int.natCast_add, List.length_cons, List.length_append, List.length_nil]; omega))) ?_ | refine And.intro ?_ ?_))
        · have hA0 := hA_bd (a := la) (k := lk) ⟨j3, j5, j7⟩
          have hA2 := hA_bd (a := lb) (k := lm) ⟨j4, j6, j8⟩
          have hh0 : plV (hA la lk) lk = la := hA_pl
          have hh2 : plV (hA lb lm) lm = lb := hA_pl
          dsimp only
          rw [show hrs (hdS (.hd la lk lb lm :: E)) 4 = ⟨#[]⟩ from hF.out.r4, show hc0 (hdS (.hd la lk lb lm :: E)) 4 = hA la lk from hF.out.v0, show hc1 (hdS (.hd la lk lb lm :: E)) 4 = lk from hF.out.v1, show hc2 (hdS (.hd la lk lb lm :: E)) 4 = hA lb lm from hF.out.v2, show hc3 (hdS (.hd la lk lb lm :: E)) 4 = lm from hF.out.v3]
          have hmore := congrArg (fun z => AV.v false [Lf.d .str (bs z)]) hF.out.more
          replace hmore := Lib.hid hmore
          rcases j11 with hlt | ⟨heq, -⟩
          · (repeat' (first | (with_reducible refine Cend.go ?_) | (with_reducible refine Step.mk True.intro ?_) | (with_reducible refine Step.mk ?_ ?_; focus (((try simp only [true_and, and_true, and_self, kmin, kmax, decide_eq_true_eq, decide_eq_false_iff_not, castD_self, castL_self, List.length_cons, List.length_nil, List.length_append, Int.natCast_add] at *) <;> omega))) | (with_reducible refine Step.mk ?_ ?_) | (with_reducible refine Way.t1 ?_) | (with_reducible refine Way.f1 ?_) | ((with_reducible refine Way.dec (fun _ => ?_) (fun _ => ?_)) <;> try (exfalso; omega)) | (with_reducible refine Way.nt ?_) | (with_reducible refine Way.mk (fun _ => ?_) (fun _ => ?_)) | (with_reducible refine Drawn.mk (by kernel_rfl) ?_) | (refine Run.mk ?_)))
            all_goals try (exfalso; rename_i q; exact absurd rfl q)
            refine Back.by ⟨E, a + (plV (hA la lk) lk - a), lk, lm, g, false, D, none, k + 1⟩ ?_ ?_ ?_
            · refine Wk.trans ?_ (prC_wk E _ _ _ _ _ _)
              (refine Wk.keep ?_ ?_ <;> repeat' (first | exact True.intro | refine And.intro rfl ?_ | refine And.intro (congrArg (fun z : Int => AV.v false [Lf.d (.int .i64) z]) (by first | omega | (simp only [Int.natCast_add, List.length_cons, List.length_append, List.length_nil]; omega))) ?_ | refine And.intro ?_ ?_))
              exact hmore.out
            · exact hd_next hI.out (by omega) (if_pos hlt).symm
            · exact Nat.lt_succ_self _
          · (repeat' (first | (with_reducible refine Cend.go ?_) | (with_reducible refine Step.mk True.intro ?_) | (with_reducible refine Step.mk ?_ ?_; focus (((try simp only [true_and, and_true, and_self, kmin, kmax, decide_eq_true_eq, decide_eq_false_iff_not, castD_self, castL_self, List.length_cons, List.length_nil, List.length_append, Int.natCast_add] at *) <;> omega))) | (with_reducible refine Step.mk ?_ ?_) | (with_reducible refine Way.t1 ?_) | (with_reducible refine Way.f1 ?_) | ((with_reducible refine Way.dec (fun _ => ?_) (fun _ => ?_)) <;> try (exfalso; omega)) | (with_reducible refine Way.nt ?_) | (with_reducible refine Way.mk (fun _ => ?_) (fun _ => ?_)) | (with_reducible refine Drawn.mk (by kernel_rfl) ?_) | (refine Run.mk ?_)))
            all_goals try (exfalso; rename_i q; exact absurd rfl q)
            refine Back.by ⟨E, a, lk, lm, g, ad, D, none, k + 1⟩ ?_ ?_ ?_
            · refine Wk.trans ?_ (prC_wk E _ _ _ _ _ _)
              (refine Wk.keep ?_ ?_ <;> repeat' (first | exact True.intro | refine And.intro rfl ?_ | refine And.intro (congrArg (fun z : Int => AV.v false [Lf.d (.int .i64) z]) (by first | omega | (simp only [Int.natCast_add, List.length_cons, List.length_append, List.length_nil]; omega))) ?_ | refine And.intro ?_ ?_))
              exact hmore.out
            · exact hd_next hI.out heq (if_neg (by omega)).symm
            · exact Nat.lt_succ_self _
      · dsimp only [prH, prO, prB, List.cons_append, List.nil_append]
        (repeat' (first | (with_reducible refine Cend.go ?_) | (with_reducible refine Step.mk True.intro ?_) | (with_reducible refine Step.mk ?_ ?_; focus (((try simp only [true_and, and_true, and_self, kmin, kmax, decide_eq_true_eq, decide_eq_false_iff_not, castD_self, castL_self, List.length_cons, List.length_nil, List.length_append, Int.natCast_add] at *) <;> omega))) | (with_reducible refine Step.mk ?_ ?_) | (with_reducible refine Way.t1 ?_) | (with_reducible refine Way.f1 ?_) | ((with_reducible refine Way.dec (fun zz => ?_) (fun zz => ?_)) <;> (try simp only [castD_self, castL_self] at zz) <;> try (exfalso; first | omega | contradiction)) | (with_reducible refine Way.nt ?_) | ((with_reducible refine Way.mk (fun _ => ?_) (fun _ => ?_)) <;> try (exfalso; rename_i hw; first | exact Bool.noConfusion ((Go.RowKit.Hid.out hf).symm.trans hw) | exact Bool.noConfusion (hw.symm.trans (Go.RowKit.Hid.out hf)))) | (with_reducible refine Drawn.mk (by kernel_rfl) ?_) | (refine Run.mk ?_)))
        · exact ⟨hF.out.cut, by have := hsz; show (bs (evT (.hd la lk lb lm :: E))).size < 4294967281; omega⟩
        · exact hF.out.pfx
        show LoopG (cH 3 _) _ _ _ _ _ _ _
        refine loop_by (X := Nat) (fun i => [.put 20 (.v false [.d (.int .i64) (i : Int)]), .put 19 (.v true [.d .str ⟨#[44]⟩, .d .str ⟨#[32, 43]⟩, .d .str ⟨#[44]⟩, .d .str ⟨#[32, 64, 64]⟩]), .put 7 (.v false [.p 31018007 0]), .put 6 (.v false [.d .bool true]), .put 5 (.v false [.d .str (hrs (hdS (.hd la lk lb lm :: E)) i)]), .put 4 (.v false [.d .bool false]), .put 0 (.v false [.p 4 0]), .mark, .put 0 (.v false [.p 4 0]), .mark, .put 2 (.v false [.p 2 0]), .put 3 (.v false [.p 3 0]), .put 4 (.v false [.p 4 0]), .put 5 (.v false [.d (.int .i64) (k : Int)]), .put 8 (.v false [.d .str (bs (cutS (bs (evT (.hd la lk lb lm :: E))) ⟨#[10]⟩).2.1)]), .put 28 (.v false [.d .bool false])])
          (fun i => [.put 31018007 (.box 98 [.d (.int .i64) (hc0 (hdS (.hd la lk lb lm :: E)) i), .d (.int .i64) (hc1 (hdS (.hd la lk lb lm :: E)) i), .d (.int .i64) (hc2 (hdS (.hd la lk lb lm :: E)) i), .d (.int .i64) (hc3 (hdS (.hd la lk lb lm :: E)) i)]), .put 2 (.box 25 [.nl]), .put 3 (.box 27 [.d (.int .i64) 0, .d (.int .i64) 0]), .put 4 (.box 70 [.o 91, .d (.int .i64) a, .d .bool true, .d (.int .i64) 0, .d (.int .i64) 0, .d (.int .i64) a, .d (.int .i64) g, .d .bool ad]), .put 91 (.rox 41 tHk D [.d (.int .i64) a0, .o 92, .o 93] []), .put 92 (.row 9 .str co), .put 93 (.row 9 .str cn)])
          (fun i => i ≤ 4) (fun i => 4 - i) 0 (by decide) ?_ ?_
        · (refine Wk.keep ?_ ?_ <;> repeat' (first | exact True.intro | refine And.intro rfl ?_ | refine And.intro (congrArg (fun z : Int => AV.v false [Lf.d (.int .i64) z]) (by first | omega | (simp only [Int.natCast_add, List.length_cons, List.length_append, List.length_nil]; omega))) ?_ | refine And.intro ?_ ?_))
        intro i hi
        rcases (show i = 0 ∨ i = 1 ∨ i = 2 ∨ i = 3 ∨ i = 4 by omega) with rfl | rfl | rfl | rfl | rfl
        · dsimp only
          (repeat' (first | (with_reducible refine Cend.go ?_) | (with_reducible refine Step.mk True.intro ?_) | (with_reducible refine Step.mk ?_ ?_; focus (((try simp only [true_and, and_true, and_self, kmin, kmax, decide_eq_true_eq, decide_eq_false_iff_not, castD_self, castL_self, List.length_cons, List.length_nil, List.length_append, Int.natCast_add] at *) <;> omega))) | (with_reducible refine Step.mk ?_ ?_) | (with_reducible refine Way.t1 ?_) | (with_reducible refine Way.f1 ?_) | ((with_reducible refine Way.dec (fun _ => ?_) (fun _ => ?_)) <;> try (exfalso; omega)) | (with_reducible refine Way.nt ?_) | (with_reducible refine Way.mk (fun _ => ?_) (fun _ => ?_)) | (with_reducible refine Drawn.mk (by kernel_rfl) ?_) | (refine Run.mk ?_)))
          · exact ⟨(hF.out.ok 0 (by decide)).1, Nat.lt_of_le_of_lt (hF.out.ok 0 (by decide)).2 (by decide)⟩
          · refine Back.by 1 ?_ (by decide) (by decide)
            (refine Wk.keep ?_ ?_ <;> repeat' (first | exact True.intro | refine And.intro rfl ?_ | refine And.intro (congrArg (fun z : Int => AV.v false [Lf.d (.int .i64) z]) (by first | omega | (simp only [Int.natCast_add, List.length_cons, List.length_append, List.length_nil]; omega))) ?_ | refine And.intro ?_ ?_))
        · dsimp only
          (repeat' (first | (with_reducible refine Cend.go ?_) | (with_reducible refine Step.mk True.intro ?_) | (with_reducible refine Step.mk ?_ ?_; focus (((try simp only [true_and, and_true, and_self, kmin, kmax, decide_eq_true_eq, decide_eq_false_iff_not, castD_self, castL_self, List.length_cons, List.length_nil, List.length_append, Int.natCast_add] at *) <;> omega))) | (with_reducible refine Step.mk ?_ ?_) | (with_reducible refine Way.t1 ?_) | (with_reducible refine Way.f1 ?_) | ((with_reducible refine Way.dec (fun _ => ?_) (fun _ => ?_)) <;> try (exfalso; omega)) | (with_reducible refine Way.nt ?_) | (with_reducible refine Way.mk (fun _ => ?_) (fun _ => ?_)) | (with_reducible refine Drawn.mk (by kernel_rfl) ?_) | (refine Run.mk ?_)))
          · exact ⟨(hF.out.ok 1 (by decide)).1, Nat.lt_of_le_of_lt (hF.out.ok 1 (by decide)).2 (by decide)⟩
          · refine Back.by 2 ?_ (by decide) (by decide)
            (refine Wk.keep ?_ ?_ <;> repeat' (first | exact True.intro | refine And.intro rfl ?_ | refine And.intro (congrArg (fun z : Int => AV.v false [Lf.d (.int .i64) z]) (by first | omega | (simp only [Int.natCast_add, List.length_cons, List.length_append, List.length_nil]; omega))) ?_ | refine And.intro ?_ ?_))
        · dsimp only
          (repeat' (first | (with_reducible refine Cend.go ?_) | (with_reducible refine Step.mk True.intro ?_) | (with_reducible refine Step.mk ?_ ?_; focus (((try simp only [true_and, and_true, and_self, kmin, kmax, decide_eq_true_eq, decide_eq_false_iff_not, castD_self, castL_self, List.length_cons, List.length_nil, List.length_append, Int.natCast_add] at *) <;> omega))) | (with_reducible refine Step.mk ?_ ?_) | (with_reducible refine Way.t1 ?_) | (with_reducible refine Way.f1 ?_) | ((with_reducible refine Way.dec (fun _ => ?_) (fun _ => ?_)) <;> try (exfalso; omega)) | (with_reducible refine Way.nt ?_) | (with_reducible refine Way.mk (fun _ => ?_) (fun _ => ?_)) | (with_reducible refine Drawn.mk (by kernel_rfl) ?_) | (refine Run.mk ?_)))
          · exact ⟨(hF.out.ok 2 (by decide)).1, Nat.lt_of_le_of_lt (hF.out.ok 2 (by decide)).2 (by decide)⟩
          · refine Back.by 3 ?_ (by decide) (by decide)
            (refine Wk.keep ?_ ?_ <;> repeat' (first | exact True.intro | refine And.intro rfl ?_ | refine And.intro (congrArg (fun z : Int => AV.v false [Lf.d (.int .i64) z]) (by first | omega | (simp only [Int.natCast_add, List.length_cons, List.length_append, List.length_nil]; omega))) ?_ | refine And.intro ?_ ?_))
        · dsimp only
          (repeat' (first | (with_reducible refine Cend.go ?_) | (with_reducible refine Step.mk True.intro ?_) | (with_reducible refine Step.mk ?_ ?_; focus (((try simp only [true_and, and_true, and_self, kmin, kmax, decide_eq_true_eq, decide_eq_false_iff_not, castD_self, castL_self, List.length_cons, List.length_nil, List.length_append, Int.natCast_add] at *) <;> omega))) | (with_reducible refine Step.mk ?_ ?_) | (with_reducible refine Way.t1 ?_) | (with_reducible refine Way.f1 ?_) | ((with_reducible refine Way.dec (fun _ => ?_) (fun _ => ?_)) <;> try (exfalso; omega)) | (with_reducible refine Way.nt ?_) | (with_reducible refine Way.mk (fun _ => ?_) (fun _ => ?_)) | (with_reducible refine Drawn.mk (by kernel_rfl) ?_) | (refine Run.mk ?_)))
          · exact ⟨(hF.out.ok 3 (by decide)).1, Nat.lt_of_le_of_lt (hF.out.ok 3 (by decide)).2 (by decide)⟩
          · refine Back.by 4 ?_ (by decide) (by decide)
            (refine Wk.keep ?_ ?_ <;> repeat' (first | exact True.intro | refine And.intro rfl ?_ | refine And.intro (congrArg (fun z : Int => AV.v false [Lf.d (.int .i64) z]) (by first | omega | (simp only [Int.natCast_add, List.length_cons, List.length_append, List.length_nil]; omega))) ?_ | refine And.intro ?_ ?_))
        · have hA0 := hA_bd (a := la) (k := lk) ⟨j3, j5, j7⟩
          have hA2 := hA_bd (a := lb) (k := lm) ⟨j4, j6, j8⟩
          have hh0 : plV (hA la lk) lk = la := hA_pl
          have hh2 : plV (hA lb lm) lm = lb := hA_pl
          dsimp only
          rw [show hrs (hdS (.hd la lk lb lm :: E)) 4 = ⟨#[]⟩ from hF.out.r4, show hc0 (hdS (.hd la lk lb lm :: E)) 4 = hA la lk from hF.out.v0, show hc1 (hdS (.hd la lk lb lm :: E)) 4 = lk from hF.out.v1, show hc2 (hdS (.hd la lk lb lm :: E)) 4 = hA lb lm from hF.out.v2, show hc3 (hdS (.hd la lk lb lm :: E)) 4 = lm from hF.out.v3]
          have hmore := congrArg (fun z => AV.v false [Lf.d .str (bs z)]) hF.out.more
          replace hmore := Lib.hid hmore
          have hlt : a < la := by
            rcases j11 with hlt | ⟨-, heq⟩
            · exact hlt
            · cases heq
          clear j11
          (repeat' (first | (with_reducible refine Cend.go ?_) | (with_reducible refine Step.mk True.intro ?_) | (with_reducible refine Step.mk ?_ ?_; focus (((try simp only [true_and, and_true, and_self, kmin, kmax, decide_eq_true_eq, decide_eq_false_iff_not, castD_self, castL_self, List.length_cons, List.length_nil, List.length_append, Int.natCast_add] at *) <;> omega))) | (with_reducible refine Step.mk ?_ ?_) | (with_reducible refine Way.t1 ?_) | (with_reducible refine Way.f1 ?_) | ((with_reducible refine Way.dec (fun _ => ?_) (fun _ => ?_)) <;> try (exfalso; omega)) | (with_reducible refine Way.nt ?_) | (with_reducible refine Way.mk (fun _ => ?_) (fun _ => ?_)) | (with_reducible refine Drawn.mk (by kernel_rfl) ?_) | (refine Run.mk ?_)))
          all_goals try (exfalso; rename_i q; exact absurd rfl q)
          refine Back.by ⟨E, a + (plV (hA la lk) lk - a), lk, lm, g, false, D ++ [(a0, co, cn)], none, k + 1⟩ ?_ ?_ ?_
          · refine Wk.trans ?_ (prC_wk E _ _ _ _ _ _)
            refine (Wk.pack 91 (x := (a0, co, cn)) (l2 := []) (hl' := prB ++ [.put 4 (.box 70 [.o 91, .d (.int .i64) (a + (plV (hA la lk) lk - a)), .d .bool false, .d (.int .i64) lk, .d (.int .i64) lm, .d (.int .i64) (a + (plV (hA la lk) lk - a)), .d (.int .i64) g, .d .bool false])]) rfl rfl (by repeat' (first | exact True.intro | refine And.intro rfl ?_)) rfl rfl).trans ?_
            (refine Wk.keep ?_ ?_ <;> repeat' (first | exact True.intro | refine And.intro rfl ?_ | refine And.intro (congrArg (fun z : Int => AV.v false [Lf.d (.int .i64) z]) (by first | omega | (simp only [Int.natCast_add, List.length_cons, List.length_append, List.length_nil]; omega))) ?_ | refine And.intro ?_ ?_))
            exact hmore.out
          · exact hd_next hI.out (by omega) (if_pos hlt).symm
          · exact Nat.lt_succ_self _
end Go.Proofs.YtppmhjaooiameaaDoor
