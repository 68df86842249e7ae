/- The walk of worddiff.Highlight, its passes run in place. -/
import Derived.Test.YtdpcbffmmndhcaaWxAlign
import Derived.Test.YtdpcbffmmndhcaaWxToks
import Derived.Test.YtdpcbffmmndhcaaWxEq
import Derived.Test.YtdpcbffmmndhcaaStpPure
namespace Go.Proofs.Ytdpcbffmmndhcaa
open Go.RowKit
set_option maxRecDepth 10000
set_option linter.unusedSimpArgs false

def hlC (s t : ByteArray) : Int := if vC [s] = 0 then vC [t] else vC [s]
def hlI (s t : ByteArray) : Int := if vC [s] = 0 then (if vC [t] = 0 then 0 else 1) else 0
def hlX (s t : ByteArray) : List (Int × Int) := if hlC s t = 0 then rgs (mX (steps (toks s.data.toList) (toks t.data.toList))) else []
def hlY (s t : ByteArray) : List (Int × Int) := if hlC s t = 0 then rgs (mY (steps (toks s.data.toList) (toks t.data.toList))) else []
def sp_Highlight : SpecF := pureSp false [.str, .str] (fun _ => True) (fun (a', b', _) => .tu [(false, [.d (.slice tPr) (hlX a' b')]), (false, [.d (.slice tPr) (hlY a' b')]), (true, [.d (.int .i64) (hlC a' b'), .d (.int .i64) (hlI a' b')])])
theorem Highlight_sp : SpFact 22 sp_Highlight := by
  refine ⟨⟨Try.f22, rfl, rfl, rfl, pureSp_okF (env1_fine (sp := [(36, sp_Second), (37, sp_tokens), (39, sp_Align)]) (eq := [(24, true)])
    (inl := [(40, Try.f40)]) (cl := []) ⟨Second_sp, tokens_sp, Align_sp, True.intro⟩ ⟨eq_fault, True.intro⟩ ⟨⟨rfl, rfl, rfl⟩, True.intro⟩) rfl (fun ⟨_, _, _⟩ _ => rfl) ?_⟩, pureSp_loc _ _ _ _⟩
  rintro ⟨s, t, u⟩ - -
  (refine fnM_of rfl rfl rfl rfl ?_; dsimp only [params, argAV, Ty.leaves, Ty.isSt])
  (repeat' (first | (with_reducible refine Step.mk True.intro ?_) | (with_reducible refine Step.mk ?_ ?_; focus (((try simp only [true_and, and_true, and_self, kmin, kmax, decide_eq_true_eq, decide_eq_false_iff_not, castD_self, castL_self, List.length_cons, List.length_nil, List.length_append, Int.natCast_add] at *) <;> omega))) | (with_reducible refine Step.mk ?_ ?_) | (with_reducible refine Way.t1 ?_) | (with_reducible refine Way.f1 ?_) | ((with_reducible refine Way.dec (fun _ => ?_) (fun _ => ?_)) <;> try (exfalso; omega)) | (with_reducible refine Way.nt ?_) | (with_reducible refine Way.mk (fun _ => ?_) (fun _ => ?_)) | (with_reducible refine Drawn.mk (by kernel_rfl) ?_) | (refine Run.mk ?_)))
  refine loop_by (X := Nat) (fun x => [.put 0 (.v false [.d .str s]), .put 1 (.v false [.d .str t]), .put 4 (.v false [.nl]), .put 5 (.v false [.nl]), .put 6 (.v false [.p 6 0]), .put 20 (.v true [.d .str s, .d .str t]), .put 21 (.v false [.d (.int .i64) (x : Int)])])
    (fun _ => [.put 6 (.box 24 [.d (.int .i64) 0, .d (.int .i64) 0])]) (fun x => x ≤ 2 ∧ (0 < x → vC [s] = 0) ∧ (1 < x → vC [t] = 0)) (fun x => 2 - x) 0 ⟨by omega, by omega, by omega⟩ ?_ ?_
  · (refine Wk.keep ?_ ?_ <;> repeat' (first | exact True.intro | refine And.intro rfl ?_ | refine And.intro (congrArg (fun z : Int => AV.v false [Lf.d (.int .i64) z]) (by first | omega | (simp only [Int.natCast_add, List.length_cons, List.length_append, List.length_nil]; omega))) ?_ | refine And.intro ?_ ?_))
  rintro x ⟨hx, h1, h2⟩
  dsimp only at hx h1 h2 ⊢
  obtain rfl | rfl | rfl : x = 0 ∨ x = 1 ∨ x = 2 := by omega
  · clear h1 h2
    (repeat' (first | (with_reducible refine Step.mk True.intro ?_) | (with_reducible refine Step.mk ?_ ?_; focus (((try simp only [true_and, and_true, and_self, kmin, kmax, decide_eq_true_eq, decide_eq_false_iff_not, castD_self, castL_self, List.length_cons, List.length_nil, List.length_append, Int.natCast_add] at *) <;> omega))) | (with_reducible refine Step.mk ?_ ?_) | (with_reducible refine Way.t1 ?_) | (with_reducible refine Way.f1 ?_) | ((with_reducible refine Way.dec (fun _ => ?_) (fun _ => ?_)) <;> try (exfalso; omega)) | (with_reducible refine Way.nt ?_) | (with_reducible refine Way.mk (fun _ => ?_) (fun _ => ?_)) | (with_reducible refine Drawn.mk (by kernel_rfl) ?_) | (refine Run.mk ?_)))
    · rename_i h
      have h : (decide (vC [s] = 0) && decide ((if vC [s] = 0 then (0 : Int) else 0) = 0)) = true := h
      have h : vC [s] = 0 := by simpa using h
      (refine Back.by (1) ?_ ?_ ?_; focus (refine Wk.keep ?_ ?_ <;> repeat' (first | exact True.intro | refine And.intro rfl ?_ | refine And.intro (congrArg (fun z : Int => AV.v false [Lf.d (.int .i64) z]) (by first | omega | (simp only [Int.natCast_add, List.length_cons, List.length_append, List.length_nil]; omega))) ?_ | refine And.intro ?_ ?_)))
      · exact ⟨by omega, fun _ => h, by omega⟩
      · show 2 - 1 < 2 - 0; omega
    · rename_i h
      have h : (decide (vC [s] = 0) && decide ((if vC [s] = 0 then (0 : Int) else 0) = 0)) = false := h
      have h : ¬ vC [s] = 0 := by intro e; rw [e] at h; simp at h
      refine Ret.mk ?_
      have e1 : hlC s t = vC [s] := if_neg h
      have e2 : hlI s t = 0 := if_neg h
      have e3 : hlX s t = [] := if_neg (by rw [e1]; exact h)
      have e4 : hlY s t = [] := if_neg (by rw [e1]; exact h)
      rw [e1, e2, e3, e4]
      refine ⟨⟨rfl, .frz rfl, True.intro⟩, ⟨rfl, .frz rfl, True.intro⟩, ⟨rfl, .same, .inl ?_, True.intro⟩, True.intro⟩
      show Lf.d (.int .i64) (if vC [s] = 0 then (0 : Int) else ((0 : Nat) : Int)) = _
      rw [if_neg h]; rfl
  · have h1 : vC [s] = 0 := h1 (by omega)
    clear h2
    (repeat' (first | (with_reducible refine Step.mk True.intro ?_) | (with_reducible refine Step.mk ?_ ?_; focus (((try simp only [true_and, and_true, and_self, kmin, kmax, decide_eq_true_eq, decide_eq_false_iff_not, castD_self, castL_self, List.length_cons, List.length_nil, List.length_append, Int.natCast_add] at *) <;> omega))) | (with_reducible refine Step.mk ?_ ?_) | (with_reducible refine Way.t1 ?_) | (with_reducible refine Way.f1 ?_) | ((with_reducible refine Way.dec (fun _ => ?_) (fun _ => ?_)) <;> try (exfalso; omega)) | (with_reducible refine Way.nt ?_) | (with_reducible refine Way.mk (fun _ => ?_) (fun _ => ?_)) | (with_reducible refine Drawn.mk (by kernel_rfl) ?_) | (refine Run.mk ?_)))
    · rename_i h
      have h : (decide (vC [t] = 0) && decide ((if vC [t] = 0 then (0 : Int) else 1) = 0)) = true := h
      have h : vC [t] = 0 := by simpa using h
      (refine Back.by (2) ?_ ?_ ?_; focus (refine Wk.keep ?_ ?_ <;> repeat' (first | exact True.intro | refine And.intro rfl ?_ | refine And.intro (congrArg (fun z : Int => AV.v false [Lf.d (.int .i64) z]) (by first | omega | (simp only [Int.natCast_add, List.length_cons, List.length_append, List.length_nil]; omega))) ?_ | refine And.intro ?_ ?_)))
      · exact ⟨by omega, fun _ => h1, fun _ => h⟩
      · show 2 - 2 < 2 - 1; omega
    · rename_i h
      have h : (decide (vC [t] = 0) && decide ((if vC [t] = 0 then (0 : Int) else 1) = 0)) = false := h
      have h : ¬ vC [t] = 0 := by intro e; rw [e] at h; simp at h
      refine Ret.mk ?_
      have e1 : hlC s t = vC [t] := if_pos h1
      have e2 : hlI s t = 1 := by unfold hlI; rw [if_pos h1, if_neg h]
      have e3 : hlX s t = [] := if_neg (by rw [e1]; exact h)
      have e4 : hlY s t = [] := if_neg (by rw [e1]; exact h)
      rw [e1, e2, e3, e4]
      refine ⟨⟨rfl, .frz rfl, True.intro⟩, ⟨rfl, .frz rfl, True.intro⟩, ⟨rfl, .same, .inl ?_, True.intro⟩, True.intro⟩
      show Lf.d (.int .i64) (if vC [t] = 0 then (0 : Int) else ((1 : Nat) : Int)) = _
      rw [if_neg h]; rfl
  · have h1 : vC [s] = 0 := h1 (by omega)
    have h2 : vC [t] = 0 := h2 (by omega)
    have e0 : hlC s t = 0 := by unfold hlC; rw [if_pos h1, h2]
    have e1 : hlI s t = 0 := by unfold hlI; rw [if_pos h1, if_pos h2]
    have e2 : hlX s t = rgs (mX (steps (toks s.data.toList) (toks t.data.toList))) := if_pos e0
    have e3 : hlY s t = rgs (mY (steps (toks s.data.toList) (toks t.data.toList))) := if_pos e0
    have hs : s.size ≤ 80 := (((vC_good [s]).1 h1).2 s (by simp)).1
    have ht : t.size ≤ 80 := (((vC_good [t]).1 h2).2 t (by simp)).1
    rw [e0, e1, e2, e3]
    clear e0 e1 e2 e3 h1 h2 hx
    obtain ⟨fa, fa2, fa3, fa4⟩ := toks_facts s.data.toList
    obtain ⟨fb, fb2, fb3, fb4⟩ := toks_facts t.data.toList
    have ls : s.data.toList.length = s.size := by rw [Array.length_toList]; rfl
    have lt : t.data.toList.length = t.size := by rw [Array.length_toList]; rfl
    replace fa := Lib.hid fa
    replace fb := Lib.hid fb
    replace fa2 := Lib.hid fa2
    replace fb2 := Lib.hid fb2
    clear fa4 fb4
    have al := (align_len (toks s.data.toList) (toks t.data.toList)).1
    (repeat' (first | (with_reducible refine Step.mk True.intro ?_) | (with_reducible refine Step.mk ?_ ?_; focus (((try simp only [true_and, and_true, and_self, kmin, kmax, decide_eq_true_eq, decide_eq_false_iff_not, castD_self, castL_self, List.length_cons, List.length_nil, List.length_append, Int.natCast_add] at *) <;> omega))) | (with_reducible refine Step.mk ?_ ?_) | (with_reducible refine Way.t1 ?_) | (with_reducible refine Way.f1 ?_) | ((with_reducible refine Way.dec (fun _ => ?_) (fun _ => ?_)) <;> try (exfalso; omega)) | (with_reducible refine Way.nt ?_) | (with_reducible refine Way.mk (fun _ => ?_) (fun _ => ?_)) | (with_reducible refine Drawn.mk (by kernel_rfl) ?_) | (refine Run.mk ?_)))
    refine loop_by (X := Nat × Nat × Nat × List (Int × ByteArray) × List (Int × Int) × Int × List (Int × Int) × Int) (fun x => [.put 4 (.v false [.nl]), .put 5 (.v false [.nl]), .put 6 (.v false [.p 6 0]), .put 10 (.v false [.o 35]), .put 11 (.v false [.o 37]), .put 12 (.v false [.p 12 0]), .put 13 (.v false [.p 13 0]), .put 14 (.v false [.d (.int .i64) (x.2.1 : Int)]), .put 15 (.v false [.d (.int .i64) (x.2.2.1 : Int)]),
        .put 40 (.v false [.o 40]), .put 41 (.v false [.d (.int .i64) ((align (toks s.data.toList) (toks t.data.toList)).length : Int)]), .put 42 (.v false [.d (.int .i64) (x.1 : Int)])])
      (fun x => [.put 6 (.box 24 [.d (.int .i64) 0, .d (.int .i64) 0]), .put 35 (.row 9 .str (toks s.data.toList)), .put 37 (.row 9 .str (toks t.data.toList)), .put 40 (.row 3 (.int .i64) (align (toks s.data.toList) (toks t.data.toList))),
        .put 12 (.box 64 [.o 91, .d (.int .i64) x.2.2.2.2.2.1]), .put 13 (.box 64 [.o 92, .d (.int .i64) x.2.2.2.2.2.2.2]), .put 91 (.row 74 tPr x.2.2.2.2.1), .put 92 (.row 74 tPr x.2.2.2.2.2.2.1)])
      (fun x => x.1 ≤ (align (toks s.data.toList) (toks t.data.toList)).length ∧ x.2.1 ≤ (toks s.data.toList).length ∧ x.2.2.1 ≤ (toks t.data.toList).length ∧ (align (toks s.data.toList) (toks t.data.toList)).drop x.1 = align ((toks s.data.toList).drop x.2.1) ((toks t.data.toList).drop x.2.2.1) ∧
        steps (toks s.data.toList) (toks t.data.toList) = x.2.2.2.1 ++ stp ((align (toks s.data.toList) (toks t.data.toList)).drop x.1) ((toks s.data.toList).drop x.2.1) ((toks t.data.toList).drop x.2.2.1) ∧
        x.2.2.2.2.1 = rgs (mX x.2.2.2.1) ∧ x.2.2.2.2.2.1 = (mX x.2.2.2.1).length ∧ x.2.2.2.2.2.2.1 = rgs (mY x.2.2.2.1) ∧ x.2.2.2.2.2.2.2 = (mY x.2.2.2.1).length ∧ (mX x.2.2.2.1).length ≤ 80 * x.2.1 ∧ (mY x.2.2.2.1).length ≤ 80 * x.2.2.1)
      (fun x => (align (toks s.data.toList) (toks t.data.toList)).length - x.1) (0, 0, 0, [], [], 0, [], 0) ⟨Nat.zero_le _, Nat.zero_le _, Nat.zero_le _, rfl, rfl, rfl, rfl, rfl, rfl, Nat.le_refl _, Nat.le_refl _⟩ ?_ ?_
    · refine (Wk.nilbox 12 0 91 74 tPr (T := 64) (cs := [.nl, .d (.int .i64) 0]) rfl rfl rfl).trans ?_
      refine (Wk.nilbox 13 0 92 74 tPr (T := 64) (cs := [.nl, .d (.int .i64) 0]) rfl rfl rfl).trans ?_
      (refine Wk.keep ?_ ?_ <;> repeat' (first | exact True.intro | refine And.intro rfl ?_ | refine And.intro (congrArg (fun z : Int => AV.v false [Lf.d (.int .i64) z]) (by first | omega | (simp only [Int.natCast_add, List.length_cons, List.length_append, List.length_nil]; omega))) ?_ | refine And.intro ?_ ?_))
    rintro ⟨q, i, j, D, lX, nX, lY, nY⟩ ⟨hq, hi, hj, hd, hD, h1, h2, h3, h4, mx, my⟩
    dsimp only at hq hi hj hd hD h1 h2 h3 h4 mx my ⊢
    subst h1 h2 h3 h4
    have rX := rgs_len (mX D)
    have rY := rgs_len (mY D)
    by_cases hqe : q < (align (toks s.data.toList) (toks t.data.toList)).length
    · have hn := align_next _ _ i j q hd hqe
      have hv : (align (toks s.data.toList) (toks t.data.toList)).getD ((q : Int)).toNat (Ty.int .i64).dflt = (align (toks s.data.toList) (toks t.data.toList))[q] := by rw [Int.toNat_natCast, List.getD_eq_getElem?_getD, List.getElem?_eq_getElem hqe]; rfl
      have hdq := List.drop_eq_getElem_cons hqe
      have tokA : ∀ h : i < (toks s.data.toList).length, (toks s.data.toList).getD ((i : Int)).toNat Ty.str.dflt = (toks s.data.toList)[i] ∧ 0 < (toks s.data.toList)[i].size ∧ (toks s.data.toList)[i].size ≤ 80 := fun h => by
        have := fa.out _ (List.getElem_mem h)
        refine ⟨by rw [Int.toNat_natCast, List.getD_eq_getElem?_getD, List.getElem?_eq_getElem h]; rfl, this.1, by omega⟩
      have tokB : ∀ h : j < (toks t.data.toList).length, (toks t.data.toList).getD ((j : Int)).toNat Ty.str.dflt = (toks t.data.toList)[j] ∧ 0 < (toks t.data.toList)[j].size ∧ (toks t.data.toList)[j].size ≤ 80 := fun h => by
        have := fb.out _ (List.getElem_mem h)
        refine ⟨by rw [Int.toNat_natCast, List.getD_eq_getElem?_getD, List.getElem?_eq_getElem h]; rfl, this.1, by omega⟩
      rcases hn with ⟨e0, hi', hj', hab, hd', -⟩ | ⟨e0, hi', hd', -, -⟩ | ⟨e0, hj', hd', -, -⟩
      · rw [e0] at hv hdq
        obtain ⟨ka, ka1, ka2⟩ := tokA hi'
        obtain ⟨kb, kb1, kb2⟩ := tokB hj'
        rw [← ka] at ka1 ka2
        rw [← kb] at kb1 kb2
        clear tokA tokB
        replace hd := Lib.hid hd
        replace hd' := Lib.hid hd'
        replace hD := Lib.hid hD
        replace hdq := Lib.hid hdq
        replace ka := Lib.hid ka
        replace kb := Lib.hid kb
        replace hab := Lib.hid hab
        replace e0 := Lib.hid e0
        (repeat' (first | (with_reducible refine Step.mk True.intro ?_) | (with_reducible refine Step.mk ?_ ?_; focus (((try simp only [true_and, and_true, and_self, kmin, kmax, decide_eq_true_eq, decide_eq_false_iff_not, castD_self, castL_self, List.length_cons, List.length_nil, List.length_append, Int.natCast_add] at *) <;> omega))) | (with_reducible refine Step.mk ?_ ?_) | (with_reducible refine Way.t1 ?_) | (with_reducible refine Way.f1 ?_) | ((with_reducible refine Way.dec (fun _ => ?_) (fun _ => ?_)) <;> try (exfalso; omega)) | (with_reducible refine Way.nt ?_) | (with_reducible refine Way.mk (fun _ => ?_) (fun _ => ?_)) | (with_reducible refine Drawn.mk (by kernel_rfl) ?_) | (refine Run.mk ?_)))
        (apply Back.by ((q + 1, i + 1, j + 1, D ++ [(0, (toks s.data.toList)[i])], _, _, _, _)); focus (refine Wk.keep ?_ ?_ <;> repeat' (first | exact True.intro | refine And.intro rfl ?_ | refine And.intro (congrArg (fun z : Int => AV.v false [Lf.d (.int .i64) z]) (by first | omega | (simp only [Int.natCast_add, List.length_cons, List.length_append, List.length_nil]; omega))) ?_ | refine And.intro ?_ ?_)))
        · obtain ⟨x1, x2⟩ := mX_0 D (toks s.data.toList)[i]
          obtain ⟨y1, y2⟩ := mY_0 D (toks s.data.toList)[i]
          have hab' := hab.out
          have ka' := ka.out
          have kb' := kb.out
          rw [ka'] at ka1 ka2
          refine ⟨by show q + 1 ≤ _; omega, hi', hj', hd'.out, ?_, x1.symm, ?_, y1.symm, ?_, ?_, ?_⟩
          · dsimp only
            rw [hD.out, hdq.out, stp_keep _ _ _ _ _ hi' hj', List.append_assoc]; rfl
          · show ((mX D).length : Int) + (((toks s.data.toList).getD ((i : Int)).toNat Ty.str.dflt).size : Int) = _
            rw [x2, ka']; omega
          · show ((mY D).length : Int) + (((toks t.data.toList).getD ((j : Int)).toNat Ty.str.dflt).size : Int) = _
            rw [y2, kb', ← hab']; omega
          · show (mX (D ++ [(0, (toks s.data.toList)[i])])).length ≤ 80 * (i + 1)
            rw [x2]; omega
          · show (mY (D ++ [(0, (toks s.data.toList)[i])])).length ≤ 80 * (j + 1)
            rw [y2, hab', ← kb']; omega
        · show _ - (q + 1) < _ - q; omega
      · rw [e0] at hv hdq
        obtain ⟨ka, ka1, ka2⟩ := tokA hi'
        rw [← ka] at ka1 ka2
        clear tokA tokB
        replace hd := Lib.hid hd
        replace hd' := Lib.hid hd'
        replace hD := Lib.hid hD
        replace hdq := Lib.hid hdq
        replace e0 := Lib.hid e0
        replace ka := Lib.hid ka
        have fin : ∀ (R : List (Int × Int)) (b : Int), R = rgs (mX (D ++ [(1, (toks s.data.toList)[i])])) → b = ((mX D).length : Int) + (((toks s.data.toList).getD ((i : Int)).toNat Ty.str.dflt).size : Int) →
            q + 1 ≤ (align (toks s.data.toList) (toks t.data.toList)).length ∧ i + 1 ≤ (toks s.data.toList).length ∧ j ≤ (toks t.data.toList).length ∧ (align (toks s.data.toList) (toks t.data.toList)).drop (q + 1) = align ((toks s.data.toList).drop (i + 1)) ((toks t.data.toList).drop j) ∧
            steps (toks s.data.toList) (toks t.data.toList) = (D ++ [(1, (toks s.data.toList)[i])]) ++ stp ((align (toks s.data.toList) (toks t.data.toList)).drop (q + 1)) ((toks s.data.toList).drop (i + 1)) ((toks t.data.toList).drop j) ∧
            R = rgs (mX (D ++ [(1, (toks s.data.toList)[i])])) ∧ b = (mX (D ++ [(1, (toks s.data.toList)[i])])).length ∧ rgs (mY D) = rgs (mY (D ++ [(1, (toks s.data.toList)[i])])) ∧ ((mY D).length : Int) = (mY (D ++ [(1, (toks s.data.toList)[i])])).length ∧
            (mX (D ++ [(1, (toks s.data.toList)[i])])).length ≤ 80 * (i + 1) ∧ (mY (D ++ [(1, (toks s.data.toList)[i])])).length ≤ 80 * j := by
          rintro R b hR rfl
          have ka' := ka.out
          rw [ka'] at ka1 ka2
          obtain ⟨x1, x2⟩ := mX_1 D (toks s.data.toList)[i] ka1
          refine ⟨by omega, hi', hj, hd'.out, ?_, hR, ?_, by rw [mY_1], by rw [mY_1], ?_, ?_⟩
          · rw [hD.out, hdq.out, stp_del _ _ _ _ _ hi', List.append_assoc]; rfl
          · rw [x2, ka']; omega
          · rw [x2]; omega
          · rw [mY_1]; omega
        have rp : rgs (mX (D ++ [(1, (toks s.data.toList)[i])])) = rpush (rgs (mX D)) (mX D).length ((mX D).length + (((toks s.data.toList).getD ((i : Int)).toNat Ty.str.dflt).size : Int)) := by
          have ka' := ka.out
          rw [ka'] at ka1 ⊢
          exact (mX_1 D (toks s.data.toList)[i] ka1).1
        replace fin := Lib.hid fin
        replace rp := Lib.hid rp
        (repeat' (first | (with_reducible refine Step.mk True.intro ?_) | (with_reducible refine Step.mk ?_ ?_; focus (((try simp only [true_and, and_true, and_self, kmin, kmax, decide_eq_true_eq, decide_eq_false_iff_not, castD_self, castL_self, List.length_cons, List.length_nil, List.length_append, Int.natCast_add] at *) <;> omega))) | (with_reducible refine Step.mk ?_ ?_) | (with_reducible refine Way.t1 ?_) | (with_reducible refine Way.f1 ?_) | ((with_reducible refine Way.dec (fun _ => ?_) (fun _ => ?_)) <;> try (exfalso; omega)) | (with_reducible refine Way.nt ?_) | (with_reducible refine Way.mk (fun _ => ?_) (fun _ => ?_)) | (with_reducible refine Drawn.mk (by kernel_rfl) ?_) | (refine Run.mk ?_)))
        · rename_i hlast _
          have hlast : ((rgs (mX D)).getD (((rgs (mX D)).length : Int) - 1).toNat tPr.dflt).2 = ((mX D).length : Int) := hlast
          (apply Back.by ((q + 1, i + 1, j, D ++ [(1, (toks s.data.toList)[i])], _, _, _, _)); focus (refine Wk.keep ?_ ?_ <;> repeat' (first | exact True.intro | refine And.intro rfl ?_ | refine And.intro (congrArg (fun z : Int => AV.v false [Lf.d (.int .i64) z]) (by first | omega | (simp only [Int.natCast_add, List.length_cons, List.length_append, List.length_nil]; omega))) ?_ | refine And.intro ?_ ?_)))
          · refine fin.out _ _ ?_ rfl
            rw [rp.out]
            have e : (((rgs (mX D)).length : Int) - 1).toNat = (rgs (mX D)).length - 1 := by omega
            rw [e] at hlast ⊢
            exact (rpush_set _ _ _ tPr.dflt (by intro h; have := congrArg List.length h; rw [List.length_nil] at this; omega) hlast).symm
          · show _ - (q + 1) < _ - q; omega
        · rename_i hlast _ _
          have hlast : ¬ ((rgs (mX D)).getD (((rgs (mX D)).length : Int) - 1).toNat tPr.dflt).2 = ((mX D).length : Int) := hlast
          (apply Back.by ((q + 1, i + 1, j, D ++ [(1, (toks s.data.toList)[i])], _, _, _, _)); focus (refine Wk.ren [(91, 55063)] rfl ?_ ?_ <;> repeat' (first | exact True.intro | refine And.intro rfl ?_ | refine And.intro (congrArg (fun z : Int => AV.v false [Lf.d (.int .i64) z]) (by first | omega | (simp only [Int.natCast_add, List.length_cons, List.length_append, List.length_nil]; omega))) ?_ | refine And.intro ?_ ?_)))
          · refine fin.out _ _ ?_ rfl
            rw [rp.out]
            have e : (((rgs (mX D)).length : Int) - 1).toNat = (rgs (mX D)).length - 1 := by omega
            rw [e] at hlast
            exact (rpush_app _ _ _ tPr.dflt (fun _ => hlast)).symm
          · show _ - (q + 1) < _ - q; omega
        · (apply Back.by ((q + 1, i + 1, j, D ++ [(1, (toks s.data.toList)[i])], _, _, _, _)); focus (refine Wk.ren [(91, 55063)] rfl ?_ ?_ <;> repeat' (first | exact True.intro | refine And.intro rfl ?_ | refine And.intro (congrArg (fun z : Int => AV.v false [Lf.d (.int .i64) z]) (by first | omega | (simp only [Int.natCast_add, List.length_cons, List.length_append, List.length_nil]; omega))) ?_ | refine And.intro ?_ ?_)))
          · refine fin.out _ _ ?_ rfl
            rw [rp.out]
            have e : rgs (mX D) = [] := List.eq_nil_of_length_eq_zero (by omega)
            rw [e]
            rfl
          · show _ - (q + 1) < _ - q; omega
      · rw [e0] at hv hdq
        obtain ⟨ka, ka1, ka2⟩ := tokB hj'
        rw [← ka] at ka1 ka2
        clear tokA tokB
        replace hd := Lib.hid hd
        replace hd' := Lib.hid hd'
        replace hD := Lib.hid hD
        replace hdq := Lib.hid hdq
        replace e0 := Lib.hid e0
        replace ka := Lib.hid ka
        have fin : ∀ (R : List (Int × Int)) (b : Int), R = rgs (mY (D ++ [(2, (toks t.data.toList)[j])])) → b = ((mY D).length : Int) + (((toks t.data.toList).getD ((j : Int)).toNat Ty.str.dflt).size : Int) →
            q + 1 ≤ (align (toks s.data.toList) (toks t.data.toList)).length ∧ i ≤ (toks s.data.toList).length ∧ j + 1 ≤ (toks t.data.toList).length ∧ (align (toks s.data.toList) (toks t.data.toList)).drop (q + 1) = align ((toks s.data.toList).drop i) ((toks t.data.toList).drop (j + 1)) ∧
            steps (toks s.data.toList) (toks t.data.toList) = (D ++ [(2, (toks t.data.toList)[j])]) ++ stp ((align (toks s.data.toList) (toks t.data.toList)).drop (q + 1)) ((toks s.data.toList).drop i) ((toks t.data.toList).drop (j + 1)) ∧
            rgs (mX D) = rgs (mX (D ++ [(2, (toks t.data.toList)[j])])) ∧ ((mX D).length : Int) = (mX (D ++ [(2, (toks t.data.toList)[j])])).length ∧ R = rgs (mY (D ++ [(2, (toks t.data.toList)[j])])) ∧ b = (mY (D ++ [(2, (toks t.data.toList)[j])])).length ∧
            (mX (D ++ [(2, (toks t.data.toList)[j])])).length ≤ 80 * i ∧ (mY (D ++ [(2, (toks t.data.toList)[j])])).length ≤ 80 * (j + 1) := by
          rintro R b hR rfl
          have ka' := ka.out
          rw [ka'] at ka1 ka2
          obtain ⟨x1, x2⟩ := mY_2 D (toks t.data.toList)[j] ka1
          refine ⟨by omega, hi, hj', hd'.out, ?_, by rw [mX_2], by rw [mX_2], hR, ?_, ?_, ?_⟩
          · rw [hD.out, hdq.out, stp_ins _ _ _ _ _ hj', List.append_assoc]; rfl
          · rw [x2, ka']; omega
          · rw [mX_2]; omega
          · rw [x2]; omega
        have rp : rgs (mY (D ++ [(2, (toks t.data.toList)[j])])) = rpush (rgs (mY D)) (mY D).length ((mY D).length + (((toks t.data.toList).getD ((j : Int)).toNat Ty.str.dflt).size : Int)) := by
          have ka' := ka.out
          rw [ka'] at ka1 ⊢
          exact (mY_2 D (toks t.data.toList)[j] ka1).1
        replace fin := Lib.hid fin
        replace rp := Lib.hid rp
        (repeat' (first | (with_reducible refine Step.mk True.intro ?_) | (with_reducible refine Step.mk ?_ ?_; focus (((try simp only [true_and, and_true, and_self, kmin, kmax, decide_eq_true_eq, decide_eq_false_iff_not, castD_self, castL_self, List.length_cons, List.length_nil, List.length_append, Int.natCast_add] at *) <;> omega))) | (with_reducible refine Step.mk ?_ ?_) | (with_reducible refine Way.t1 ?_) | (with_reducible refine Way.f1 ?_) | ((with_reducible refine Way.dec (fun _ => ?_) (fun _ => ?_)) <;> try (exfalso; omega)) | (with_reducible refine Way.nt ?_) | (with_reducible refine Way.mk (fun _ => ?_) (fun _ => ?_)) | (with_reducible refine Drawn.mk (by kernel_rfl) ?_) | (refine Run.mk ?_)))
        · rename_i hlast
          have hlast : ((rgs (mY D)).getD (((rgs (mY D)).length : Int) - 1).toNat tPr.dflt).2 = ((mY D).length : Int) := hlast
          (apply Back.by ((q + 1, i, j + 1, D ++ [(2, (toks t.data.toList)[j])], _, _, _, _)); focus (refine Wk.keep ?_ ?_ <;> repeat' (first | exact True.intro | refine And.intro rfl ?_ | refine And.intro (congrArg (fun z : Int => AV.v false [Lf.d (.int .i64) z]) (by first | omega | (simp only [Int.natCast_add, List.length_cons, List.length_append, List.length_nil]; omega))) ?_ | refine And.intro ?_ ?_)))
          · refine fin.out _ _ ?_ rfl
            rw [rp.out]
            have e : (((rgs (mY D)).length : Int) - 1).toNat = (rgs (mY D)).length - 1 := by omega
            rw [e] at hlast ⊢
            exact (rpush_set _ _ _ tPr.dflt (by intro h; have := congrArg List.length h; rw [List.length_nil] at this; omega) hlast).symm
          · show _ - (q + 1) < _ - q; omega
        · rename_i hlast _
          have hlast : ¬ ((rgs (mY D)).getD (((rgs (mY D)).length : Int) - 1).toNat tPr.dflt).2 = ((mY D).length : Int) := hlast
          (apply Back.by ((q + 1, i, j + 1, D ++ [(2, (toks t.data.toList)[j])], _, _, _, _)); focus (refine Wk.ren [(92, 66063)] rfl ?_ ?_ <;> repeat' (first | exact True.intro | refine And.intro rfl ?_ | refine And.intro (congrArg (fun z : Int => AV.v false [Lf.d (.int .i64) z]) (by first | omega | (simp only [Int.natCast_add, List.length_cons, List.length_append, List.length_nil]; omega))) ?_ | refine And.intro ?_ ?_)))
          · refine fin.out _ _ ?_ rfl
            rw [rp.out]
            have e : (((rgs (mY D)).length : Int) - 1).toNat = (rgs (mY D)).length - 1 := by omega
            rw [e] at hlast
            exact (rpush_app _ _ _ tPr.dflt (fun _ => hlast)).symm
          · show _ - (q + 1) < _ - q; omega
        · (apply Back.by ((q + 1, i, j + 1, D ++ [(2, (toks t.data.toList)[j])], _, _, _, _)); focus (refine Wk.ren [(92, 66063)] rfl ?_ ?_ <;> repeat' (first | exact True.intro | refine And.intro rfl ?_ | refine And.intro (congrArg (fun z : Int => AV.v false [Lf.d (.int .i64) z]) (by first | omega | (simp only [Int.natCast_add, List.length_cons, List.length_append, List.length_nil]; omega))) ?_ | refine And.intro ?_ ?_)))
          · refine fin.out _ _ ?_ rfl
            rw [rp.out]
            have e : rgs (mY D) = [] := List.eq_nil_of_length_eq_zero (by omega)
            rw [e]
            rfl
          · show _ - (q + 1) < _ - q; omega
    · (repeat' (first | (with_reducible refine Step.mk True.intro ?_) | (with_reducible refine Step.mk ?_ ?_; focus (((try simp only [true_and, and_true, and_self, kmin, kmax, decide_eq_true_eq, decide_eq_false_iff_not, castD_self, castL_self, List.length_cons, List.length_nil, List.length_append, Int.natCast_add] at *) <;> omega))) | (with_reducible refine Step.mk ?_ ?_) | (with_reducible refine Way.t1 ?_) | (with_reducible refine Way.f1 ?_) | ((with_reducible refine Way.dec (fun _ => ?_) (fun _ => ?_)) <;> try (exfalso; omega)) | (with_reducible refine Way.nt ?_) | (with_reducible refine Way.mk (fun _ => ?_) (fun _ => ?_)) | (with_reducible refine Drawn.mk (by kernel_rfl) ?_) | (refine Run.mk ?_)))
      refine Ret.mk ?_
      have e : steps (toks s.data.toList) (toks t.data.toList) = D := by
        rw [hD, List.drop_eq_nil_of_le (by omega)]; simp [stp]
      rw [e]
      exact ⟨⟨rfl, .frz rfl, True.intro⟩, ⟨rfl, .frz rfl, True.intro⟩, ⟨rfl, .same, .same, True.intro⟩, True.intro⟩
end Go.Proofs.Ytdpcbffmmndhcaa
