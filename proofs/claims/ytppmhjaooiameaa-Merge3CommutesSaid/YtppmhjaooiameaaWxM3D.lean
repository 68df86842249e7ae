/- The walks of merge3's Clean, Resolve; equality of chunks. -/
import Derived.Test.YtppmhjaooiameaaWxM3C
import Derived.Test.YtppmhjaooiameaaWxEq
namespace Go.Proofs.Ytppmhjaooiameaa
open Go.RowKit
set_option maxRecDepth 10000
set_option linter.unusedSimpArgs false

theorem ch_ext {a b : Ch} (h1 : a.1 = b.1) (h2 : a.2.1 = b.2.1) (h3 : a.2.2.1 = b.2.2.1) (h4 : a.2.2.2.1 = b.2.2.2.1) (h5 : a.2.2.2.2 = b.2.2.2.2) : a = b := Prod.ext h1 (Prod.ext h2 (Prod.ext h3 (Prod.ext h4 h5)))
def sp_Chunks : SpecF := pureSp true [.slice tCh, .slice tCh] (fun _ => True) (fun (a', b', _) => .v false [.d .bool (decide (a' = b'))])
theorem Chunks_sp : SpFact 11 sp_Chunks := by
  refine ⟨⟨Try.f11, rfl, rfl, rfl, pureSp_ok (env_fine (sp := [(15, sp_Strings)]) (eq := []) ⟨Strings_sp, True.intro⟩ True.intro) rfl (fun ⟨_, _, _⟩ _ => rfl) ?_⟩, pureSp_loc _ _ _ _⟩
  rintro ⟨a, b, u⟩ ⟨⟨ha, -⟩, ⟨hb, -⟩, -⟩ -
  change List Ch at a b
  rw [maxLen_eq] at ha hb
  have ha : a.length ≤ 9223372036854775807 := ha
  have hb : b.length ≤ 9223372036854775807 := hb
  (refine fnM_of rfl rfl rfl rfl ?_; dsimp only [params, argAV, Ty.leaves, Ty.isSt])
  (repeat' (first | (with_reducible refine Cend.go ?_) | (with_reducible refine Step.mk True.intro ?_) | (with_reducible refine Step.mk ?_ ?_; focus (((try simp only [true_and, and_true, and_self, kmin, kmax, decide_eq_true_eq, decide_eq_false_iff_not, castD_self, castL_self, List.length_cons, List.length_nil, List.length_append, Int.natCast_add] at *) <;> omega))) | (with_reducible refine Step.mk ?_ ?_) | (with_reducible refine Way.t1 ?_) | (with_reducible refine Way.f1 ?_) | ((with_reducible refine Way.dec (fun _ => ?_) (fun _ => ?_)) <;> try (exfalso; omega)) | (with_reducible refine Way.nt ?_) | (with_reducible refine Way.mk (fun _ => ?_) (fun _ => ?_)) | (with_reducible refine Drawn.mk (by kernel_rfl) ?_) | (refine Run.mk ?_)))
  · rename_i h
    have h : a.length = b.length := by omega
    refine loop_by (X := Nat) (fun i => [.put 0 (.v false [.d (.slice tCh) a]), .put 1 (.v false [.d (.slice tCh) b]), .put 5 (.v false [.d (.int .i64) (i : Int)])]) (fun _ => []) (fun i => i ≤ a.length ∧ a.take i = b.take i) (fun i => a.length - i) 0 ⟨Nat.zero_le _, rfl⟩ ?_ ?_
    · (refine Wk.keep ?_ ?_ <;> repeat' (first | exact True.intro | refine And.intro rfl ?_ | refine And.intro (congrArg (fun z : Int => AV.v false [Lf.d (.int .i64) z]) (by first | omega | (simp only [Int.natCast_add, List.length_cons, List.length_append, List.length_nil]; omega))) ?_ | refine And.intro ?_ ?_))
    rintro i ⟨hi, ht⟩
    by_cases hlt : i < a.length
    · have ga := getD_at (a := a) tCh.dflt hlt
      have gb := getD_at (a := b) tCh.dflt (show i < b.length by omega)
      have no : (¬ (a.getD ((i : Int)).toNat tCh.dflt) = b.getD ((i : Int)).toNat tCh.dflt) → ¬ a = b := fun h2 => by
        rw [ga, gb] at h2
        exact ne_at hlt (show i < b.length by omega) h2
      replace ht := Lib.hid ht
      replace ga := Lib.hid ga
      replace gb := Lib.hid gb
      replace no := Lib.hid no
      (repeat' (first | (with_reducible refine Cend.go ?_) | (with_reducible refine Step.mk True.intro ?_) | (with_reducible refine Step.mk ?_ ?_; focus (((try simp only [true_and, and_true, and_self, kmin, kmax, decide_eq_true_eq, decide_eq_false_iff_not, castD_self, castL_self, List.length_cons, List.length_nil, List.length_append, Int.natCast_add] at *) <;> omega))) | (with_reducible refine Step.mk ?_ ?_) | (with_reducible refine Way.t1 ?_) | (with_reducible refine Way.f1 ?_) | ((with_reducible refine Way.dec (fun _ => ?_) (fun _ => ?_)) <;> try (exfalso; omega)) | (with_reducible refine Way.nt ?_) | (with_reducible refine Way.mk (fun _ => ?_) (fun _ => ?_)) | (with_reducible refine Drawn.mk (by kernel_rfl) ?_) | (refine Run.mk ?_)))
      · rename_i x1 x2 x3 x4 x5
        have h2 : a.getD ((i : Int)).toNat tCh.dflt = b.getD ((i : Int)).toNat tCh.dflt := ch_ext x1 x2 x3 x4 x5
        rw [ga.out, gb.out] at h2
        (refine Back.by (i + 1) ?_ ?_ ?_; focus (refine Wk.keep ?_ ?_ <;> repeat' (first | exact True.intro | refine And.intro rfl ?_ | refine And.intro (congrArg (fun z : Int => AV.v false [Lf.d (.int .i64) z]) (by first | omega | (simp only [Int.natCast_add, List.length_cons, List.length_append, List.length_nil]; omega))) ?_ | refine And.intro ?_ ?_)))
        · exact ⟨hlt, take_next hlt (by omega) ht.out h2⟩
        · show a.length - (i + 1) < a.length - i; omega
      · rename_i x1 x2 x3 x4 x5
        (refine Ret.mk (show AV.v false [Lf.d .bool false] = AV.v false [Lf.d .bool _] from congrArg (fun z => AV.v false [Lf.d .bool z]) (Eq.symm (decide_eq_false (no.out fun e => x5 (congrArg (fun z : Ch => z.2.2.2.2) e))))))
      · rename_i x1 x2 x3 x4
        (refine Ret.mk (show AV.v false [Lf.d .bool false] = AV.v false [Lf.d .bool _] from congrArg (fun z => AV.v false [Lf.d .bool z]) (Eq.symm (decide_eq_false (no.out fun e => x4 (congrArg (fun z : Ch => z.2.2.2.1) e))))))
      · rename_i x1 x2 x3
        (refine Ret.mk (show AV.v false [Lf.d .bool false] = AV.v false [Lf.d .bool _] from congrArg (fun z => AV.v false [Lf.d .bool z]) (Eq.symm (decide_eq_false (no.out fun e => x3 (congrArg (fun z : Ch => z.2.2.1) e))))))
      · rename_i x1 x2
        (refine Ret.mk (show AV.v false [Lf.d .bool false] = AV.v false [Lf.d .bool _] from congrArg (fun z => AV.v false [Lf.d .bool z]) (Eq.symm (decide_eq_false (no.out fun e => x2 (congrArg (fun z : Ch => z.2.1) e))))))
      · rename_i x1
        (refine Ret.mk (show AV.v false [Lf.d .bool false] = AV.v false [Lf.d .bool _] from congrArg (fun z => AV.v false [Lf.d .bool z]) (Eq.symm (decide_eq_false (no.out fun e => x1 (congrArg (fun z : Ch => z.1) e))))))
    · (repeat' (first | (with_reducible refine Cend.go ?_) | (with_reducible refine Step.mk True.intro ?_) | (with_reducible refine Step.mk ?_ ?_; focus (((try simp only [true_and, and_true, and_self, kmin, kmax, decide_eq_true_eq, decide_eq_false_iff_not, castD_self, castL_self, List.length_cons, List.length_nil, List.length_append, Int.natCast_add] at *) <;> omega))) | (with_reducible refine Step.mk ?_ ?_) | (with_reducible refine Way.t1 ?_) | (with_reducible refine Way.f1 ?_) | ((with_reducible refine Way.dec (fun _ => ?_) (fun _ => ?_)) <;> try (exfalso; omega)) | (with_reducible refine Way.nt ?_) | (with_reducible refine Way.mk (fun _ => ?_) (fun _ => ?_)) | (with_reducible refine Drawn.mk (by kernel_rfl) ?_) | (refine Run.mk ?_)))
      have : a = b := take_eq_all h (by rw [show a.length = i by omega]; exact ht)
      (refine Ret.mk (show AV.v false [Lf.d .bool true] = AV.v false [Lf.d .bool _] from congrArg (fun z => AV.v false [Lf.d .bool z]) (Eq.symm (decide_eq_true this))))
  · rename_i h
    (refine Ret.mk (show AV.v false [Lf.d .bool false] = AV.v false [Lf.d .bool _] from congrArg (fun z => AV.v false [Lf.d .bool z]) (Eq.symm (decide_eq_false (by rintro rfl; exact h rfl)))))

def sp_Clean : SpecF := pureSp false [.slice tCh] (fun _ => True) (fun (l', _) => .tu [(false, [.d (.slice .str) (clL l')]), (false, [.d .bool (clOk l')]), (true, [.d (.int .i64) (clF l').1, .d (.int .i64) (clF l').2])])
theorem Clean_sp : SpFact 14 sp_Clean := by
  refine ⟨⟨Try.f14, rfl, rfl, rfl, pureSp_okF (env1_fine (sp := [(39, sp_check)]) (eq := [(25, true)]) (inl := [(40, Try.f40)]) (cl := []) ⟨check_sp, True.intro⟩ ⟨eq_fault, True.intro⟩ ⟨⟨rfl, rfl, rfl⟩, True.intro⟩) rfl (fun ⟨_, _⟩ _ => rfl) ?_⟩, pureSp_loc _ _ _ _⟩
  rintro ⟨l, u⟩ - -
  change List Ch at l
  by_cases hv0 : ckC l = 0
  · have hv : (decide (ckC l = 0) && decide (ckI l = 0)) = true := by rw [hv0, ckI_good l hv0]; rfl
    obtain ⟨hlen, hall⟩ := ckC_all.1 hv0
    replace hall := Lib.hid hall
    replace hv := Lib.hid hv
    (refine fnM_of rfl rfl rfl rfl ?_; dsimp only [params, argAV, Ty.leaves, Ty.isSt])
    (repeat' (first | (with_reducible refine Cend.go ?_) | (with_reducible refine Step.mk True.intro ?_) | (with_reducible refine Step.mk ?_ ?_; focus (((try simp only [true_and, and_true, and_self, kmin, kmax, decide_eq_true_eq, decide_eq_false_iff_not, castD_self, castL_self, List.length_cons, List.length_nil, List.length_append, Int.natCast_add] at *) <;> omega))) | (with_reducible refine Step.mk ?_ ?_) | (with_reducible refine Way.t1 ?_) | (with_reducible refine Way.f1 ?_) | ((with_reducible refine Way.dec (fun _ => ?_) (fun _ => ?_)) <;> try (exfalso; omega)) | (with_reducible refine Way.nt ?_) | ((with_reducible refine Way.mk (fun _ => ?_) (fun _ => ?_)) <;> try (exfalso; rename_i hw; first | exact Bool.noConfusion ((Go.RowKit.Hid.out hv).symm.trans hw) | exact Bool.noConfusion (hw.symm.trans (Go.RowKit.Hid.out hv)))) | (with_reducible refine Drawn.mk (by kernel_rfl) ?_) | (refine Run.mk ?_)))
    refine loop_by (X := Nat × List ByteArray) (fun x => [.put 3 (.v false [.d .bool false]), .put 4 (.v false [.p 4 0]), .put 6 (.v false [.o 91]), .put 16 (.v false [.d (.slice tCh) l]), .put 17 (.v false [.d (.int .i64) (l.length : Int)]), .put 18 (.v false [.d (.int .i64) (x.1 : Int)])])
      (fun x => [.put 4 (.box 25 [.d (.int .i64) 0, .d (.int .i64) 0]), .put 91 (.row 9 .str x.2)]) (fun x => x.1 ≤ l.length ∧ nCf (l.take x.1) = 0 ∧ rsN l [] = x.2 ++ rsN (l.drop x.1) [] ∧ x.2.length ≤ 120 * x.1) (fun x => l.length - x.1) (0, []) ⟨Nat.zero_le _, rfl, rfl, Nat.le_refl _⟩ ?_ ?_
    · refine (Wk.nilrow 6 91 9 .str rfl).trans ?_
      (refine Wk.keep ?_ ?_ <;> repeat' (first | exact True.intro | refine And.intro rfl ?_ | refine And.intro (congrArg (fun z : Int => AV.v false [Lf.d (.int .i64) z]) (by first | omega | (simp only [Int.natCast_add, List.length_cons, List.length_append, List.length_nil]; omega))) ?_ | refine And.intro ?_ ?_))
    rintro ⟨k, M⟩ ⟨hk, hn, hr, hm⟩
    dsimp only at hk hn hr hm ⊢
    by_cases hlt : k < l.length
    · have hg : l.getD ((k : Int)).toNat tCh.dflt = l[k] := getD_at tCh.dflt hlt
      have hb := pickC_len (hall.out l[k] (List.getElem_mem hlt)) 0
      have hnt := nCf_take hlt
      have hno := @rsN_no l k hlt
      rw [← hg] at hb hnt
      cases hc : (l.getD ((k : Int)).toNat tCh.dflt).1
      · have hno := hno (by rw [← hg]; exact hc) []
        rw [← hg] at hno
        rw [hno] at hr
        rw [hc] at hnt
        replace hc := Lib.hid hc
        replace hg := Lib.hid hg
        replace hr := Lib.hid hr
        obtain ⟨b0, b1, b2⟩ := hb
        clear hno
        (repeat' (first | (with_reducible refine Cend.go ?_) | (with_reducible refine Step.mk True.intro ?_) | (with_reducible refine Step.mk ?_ ?_; focus (((try simp only [true_and, and_true, and_self, kmin, kmax, decide_eq_true_eq, decide_eq_false_iff_not, castD_self, castL_self, List.length_cons, List.length_nil, List.length_append, Int.natCast_add] at *) <;> omega))) | (with_reducible refine Step.mk ?_ ?_) | (with_reducible refine Way.t1 ?_) | (with_reducible refine Way.f1 ?_) | ((with_reducible refine Way.dec (fun _ => ?_) (fun _ => ?_)) <;> try (exfalso; omega)) | (with_reducible refine Way.nt ?_) | ((with_reducible refine Way.mk (fun _ => ?_) (fun _ => ?_)) <;> try (exfalso; rename_i hw; first | exact Bool.noConfusion ((Go.RowKit.Hid.out hc).symm.trans hw) | exact Bool.noConfusion (hw.symm.trans (Go.RowKit.Hid.out hc)))) | (with_reducible refine Drawn.mk (by kernel_rfl) ?_) | (refine Run.mk ?_)))
        (apply Back.by ((k + 1, _)); focus (refine Wk.ren [(91, 28)] rfl ?_ ?_ <;> repeat' (first | exact True.intro | refine And.intro rfl ?_ | refine And.intro (congrArg (fun z : Int => AV.v false [Lf.d (.int .i64) z]) (by first | omega | (simp only [Int.natCast_add, List.length_cons, List.length_append, List.length_nil]; omega))) ?_ | refine And.intro ?_ ?_)))
        · refine ⟨hlt, by rw [hnt, hn]; rfl, ?_, ?_⟩
          · exact hr.out.trans (List.append_assoc _ _ _).symm
          · show (M ++ (l.getD ((k : Int)).toNat tCh.dflt).2.1).length ≤ 120 * (k + 1)
            rw [List.length_append]; omega
        · show l.length - (k + 1) < l.length - k; omega
      · have hpos : nCf l ≠ 0 := by
          have := nCf_le l (k + 1)
          rw [hnt, hc] at this
          show nCf l ≠ 0
          simp only [cond_true] at this
          omega
        have e1 : clF l = (0, 0) := by unfold clF; rw [if_neg (fun z => z hv0), if_pos hpos]
        have e2 : clOk l = false := by unfold clOk; rw [decide_eq_false hpos]; simp
        have e3 : clL l = [] := by unfold clL; rw [e2]; rfl
        replace hc := Lib.hid hc
        replace hg := Lib.hid hg
        replace hr := Lib.hid hr
        clear hno hb
        (repeat' (first | (with_reducible refine Cend.go ?_) | (with_reducible refine Step.mk True.intro ?_) | (with_reducible refine Step.mk ?_ ?_; focus (((try simp only [true_and, and_true, and_self, kmin, kmax, decide_eq_true_eq, decide_eq_false_iff_not, castD_self, castL_self, List.length_cons, List.length_nil, List.length_append, Int.natCast_add] at *) <;> omega))) | (with_reducible refine Step.mk ?_ ?_) | (with_reducible refine Way.t1 ?_) | (with_reducible refine Way.f1 ?_) | ((with_reducible refine Way.dec (fun _ => ?_) (fun _ => ?_)) <;> try (exfalso; omega)) | (with_reducible refine Way.nt ?_) | ((with_reducible refine Way.mk (fun _ => ?_) (fun _ => ?_)) <;> try (exfalso; rename_i hw; first | exact Bool.noConfusion ((Go.RowKit.Hid.out hc).symm.trans hw) | exact Bool.noConfusion (hw.symm.trans (Go.RowKit.Hid.out hc)))) | (with_reducible refine Drawn.mk (by kernel_rfl) ?_) | (refine Run.mk ?_)))
        refine Ret.mk ?_
        rw [e1, e2, e3]
        exact ⟨⟨rfl, .frz rfl, True.intro⟩, ⟨rfl, .same, True.intro⟩, ⟨rfl, .same, .same, True.intro⟩, True.intro⟩
    · rw [List.take_of_length_le (by omega)] at hn
      rw [List.drop_eq_nil_of_le (by omega)] at hr
      have hr : rsN l [] = M := hr.trans (List.append_nil M)
      subst hr
      by_cases h120 : (rsN l []).length ≤ 120
      · have e1 : clF l = (0, 0) := by unfold clF; rw [if_neg (fun z => z hv0), if_neg (fun z => z hn), if_neg (by omega)]
        have e2 : clOk l = true := by unfold clOk; rw [decide_eq_true hv0, decide_eq_true hn, decide_eq_true h120]; rfl
        have e3 : clL l = rsN l [] := by unfold clL; rw [e2]; rfl
        (repeat' (first | (with_reducible refine Cend.go ?_) | (with_reducible refine Step.mk True.intro ?_) | (with_reducible refine Step.mk ?_ ?_; focus (((try simp only [true_and, and_true, and_self, kmin, kmax, decide_eq_true_eq, decide_eq_false_iff_not, castD_self, castL_self, List.length_cons, List.length_nil, List.length_append, Int.natCast_add] at *) <;> omega))) | (with_reducible refine Step.mk ?_ ?_) | (with_reducible refine Way.t1 ?_) | (with_reducible refine Way.f1 ?_) | ((with_reducible refine Way.dec (fun _ => ?_) (fun _ => ?_)) <;> try (exfalso; omega)) | (with_reducible refine Way.nt ?_) | (with_reducible refine Way.mk (fun _ => ?_) (fun _ => ?_)) | (with_reducible refine Drawn.mk (by kernel_rfl) ?_) | (refine Run.mk ?_)))
        refine Ret.mk ?_
        rw [e1, e2, e3]
        exact ⟨⟨rfl, .frz rfl, True.intro⟩, ⟨rfl, .inl rfl, True.intro⟩, ⟨rfl, .same, .same, True.intro⟩, True.intro⟩
      · have e1 : clF l = (10, -1) := by unfold clF; rw [if_neg (fun z => z hv0), if_neg (fun z => z hn), if_pos (by omega)]
        have e2 : clOk l = false := by unfold clOk; rw [decide_eq_false h120, Bool.and_false]
        have e3 : clL l = [] := by unfold clL; rw [e2]; rfl
        (repeat' (first | (with_reducible refine Cend.go ?_) | (with_reducible refine Step.mk True.intro ?_) | (with_reducible refine Step.mk ?_ ?_; focus (((try simp only [true_and, and_true, and_self, kmin, kmax, decide_eq_true_eq, decide_eq_false_iff_not, castD_self, castL_self, List.length_cons, List.length_nil, List.length_append, Int.natCast_add] at *) <;> omega))) | (with_reducible refine Step.mk ?_ ?_) | (with_reducible refine Way.t1 ?_) | (with_reducible refine Way.f1 ?_) | ((with_reducible refine Way.dec (fun _ => ?_) (fun _ => ?_)) <;> try (exfalso; omega)) | (with_reducible refine Way.nt ?_) | (with_reducible refine Way.mk (fun _ => ?_) (fun _ => ?_)) | (with_reducible refine Drawn.mk (by kernel_rfl) ?_) | (refine Run.mk ?_)))
        refine Ret.mk ?_
        rw [e1, e2, e3]
        exact ⟨⟨rfl, .frz rfl, True.intro⟩, ⟨rfl, .inl rfl, True.intro⟩, ⟨rfl, .same, .same, True.intro⟩, True.intro⟩
  · have hv : (decide (ckC l = 0) && decide (ckI l = 0)) = false := by rw [decide_eq_false hv0]; rfl
    have e1 : clF l = (ckC l, ckI l) := if_pos hv0
    have e2 : clOk l = false := by unfold clOk; rw [decide_eq_false hv0]; rfl
    have e3 : clL l = [] := by unfold clL; rw [e2]; rfl
    replace hv := Lib.hid hv
    (refine fnM_of rfl rfl rfl rfl ?_; dsimp only [params, argAV, Ty.leaves, Ty.isSt])
    (repeat' (first | (with_reducible refine Cend.go ?_) | (with_reducible refine Step.mk True.intro ?_) | (with_reducible refine Step.mk ?_ ?_; focus (((try simp only [true_and, and_true, and_self, kmin, kmax, decide_eq_true_eq, decide_eq_false_iff_not, castD_self, castL_self, List.length_cons, List.length_nil, List.length_append, Int.natCast_add] at *) <;> omega))) | (with_reducible refine Step.mk ?_ ?_) | (with_reducible refine Way.t1 ?_) | (with_reducible refine Way.f1 ?_) | ((with_reducible refine Way.dec (fun _ => ?_) (fun _ => ?_)) <;> try (exfalso; omega)) | (with_reducible refine Way.nt ?_) | ((with_reducible refine Way.mk (fun _ => ?_) (fun _ => ?_)) <;> try (exfalso; rename_i hw; first | exact Bool.noConfusion ((Go.RowKit.Hid.out hv).symm.trans hw) | exact Bool.noConfusion (hw.symm.trans (Go.RowKit.Hid.out hv)))) | (with_reducible refine Drawn.mk (by kernel_rfl) ?_) | (refine Run.mk ?_)))
    refine Ret.mk ?_
    rw [e1, e2, e3]
    exact ⟨⟨rfl, .frz rfl, True.intro⟩, ⟨rfl, .same, True.intro⟩, ⟨rfl, .same, .same, True.intro⟩, True.intro⟩

def sp_Resolve : SpecF := pureSp false [.slice tCh, .slice (.int .i64)] (fun _ => True) (fun (l', c', _) => .tu [(false, [.d (.slice .str) (rsL l' c')]), (true, [.d (.int .i64) (rsF l' c').1, .d (.int .i64) (rsF l' c').2])])
set_option maxHeartbeats 1000000 in
theorem Resolve_sp : SpFact 16 sp_Resolve := by
  refine ⟨⟨Try.f16, rfl, rfl, rfl, pureSp_okF (env1_fine (sp := [(39, sp_check)]) (eq := [(25, true)]) (inl := [(40, Try.f40)]) (cl := []) ⟨check_sp, True.intro⟩ ⟨eq_fault, True.intro⟩ ⟨⟨rfl, rfl, rfl⟩, True.intro⟩) rfl (fun ⟨_, _, _⟩ _ => rfl) ?_⟩, pureSp_loc _ _ _ _⟩
  rintro ⟨l, ch, u⟩ ⟨-, ⟨hcl, -⟩, -⟩ -
  change List Ch at l
  change List Int at ch
  rw [maxLen_eq] at hcl
  have hcl : ch.length ≤ 9223372036854775807 := hcl
  by_cases hv0 : ckC l = 0
  · have hv : (decide (ckC l = 0) && decide (ckI l = 0)) = true := by rw [hv0, ckI_good l hv0]; rfl
    obtain ⟨hlen, hall⟩ := ckC_all.1 hv0
    have hnl := nCf_len l
    replace hall := Lib.hid hall
    replace hv := Lib.hid hv
    (refine fnM_of rfl rfl rfl rfl ?_; dsimp only [params, argAV, Ty.leaves, Ty.isSt])
    (repeat' (first | (with_reducible refine Cend.go ?_) | (with_reducible refine Step.mk True.intro ?_) | (with_reducible refine Step.mk ?_ ?_; focus (((try simp only [true_and, and_true, and_self, kmin, kmax, decide_eq_true_eq, decide_eq_false_iff_not, castD_self, castL_self, List.length_cons, List.length_nil, List.length_append, Int.natCast_add] at *) <;> omega))) | (with_reducible refine Step.mk ?_ ?_) | (with_reducible refine Way.t1 ?_) | (with_reducible refine Way.f1 ?_) | ((with_reducible refine Way.dec (fun _ => ?_) (fun _ => ?_)) <;> try (exfalso; omega)) | (with_reducible refine Way.nt ?_) | ((with_reducible refine Way.mk (fun _ => ?_) (fun _ => ?_)) <;> try (exfalso; rename_i hw; first | exact Bool.noConfusion ((Go.RowKit.Hid.out hv).symm.trans hw) | exact Bool.noConfusion (hw.symm.trans (Go.RowKit.Hid.out hv)))) | (with_reducible refine Drawn.mk (by kernel_rfl) ?_) | (refine Run.mk ?_)))
    -- how many conflicts
    refine loop_by (X := Nat) (fun x => [.put 0 (.v false [.d (.slice tCh) l]), .put 1 (.v false [.d (.slice (.int .i64)) ch]), .put 4 (.v false [.nl]), .put 5 (.v false [.p 5 0]), .put 7 (.v false [.d (.int .i64) (nCf (l.take x) : Int)]), .put 22 (.v false [.d (.slice tCh) l]), .put 23 (.v false [.d (.int .i64) (l.length : Int)]), .put 24 (.v false [.d (.int .i64) (x : Int)])])
      (fun x => [.put 5 (.box 25 [.d (.int .i64) 0, .d (.int .i64) 0])]) (fun x => x ≤ l.length) (fun x => l.length - x) 0 (Nat.zero_le _) ?_ ?_
    · (refine Wk.keep ?_ ?_ <;> repeat' (first | exact True.intro | refine And.intro rfl ?_ | refine And.intro (congrArg (fun z : Int => AV.v false [Lf.d (.int .i64) z]) (by first | omega | (simp only [Int.natCast_add, List.length_cons, List.length_append, List.length_nil]; omega))) ?_ | refine And.intro ?_ ?_))
    intro k hk
    (try dsimp only)
    have hnk := nCf_le l k
    by_cases hlt : k < l.length
    · have hg : l.getD ((k : Int)).toNat tCh.dflt = l[k] := getD_at tCh.dflt hlt
      have hnt := nCf_take hlt
      rw [← hg] at hnt
      cases hc : (l.getD ((k : Int)).toNat tCh.dflt).1
      · rw [hc] at hnt
        have hnt : nCf (l.take (k + 1)) = nCf (l.take k) := hnt
        replace hc := Lib.hid hc
        replace hg := Lib.hid hg
        (repeat' (first | (with_reducible refine Cend.go ?_) | (with_reducible refine Step.mk True.intro ?_) | (with_reducible refine Step.mk ?_ ?_; focus (((try simp only [true_and, and_true, and_self, kmin, kmax, decide_eq_true_eq, decide_eq_false_iff_not, castD_self, castL_self, List.length_cons, List.length_nil, List.length_append, Int.natCast_add] at *) <;> omega))) | (with_reducible refine Step.mk ?_ ?_) | (with_reducible refine Way.t1 ?_) | (with_reducible refine Way.f1 ?_) | ((with_reducible refine Way.dec (fun _ => ?_) (fun _ => ?_)) <;> try (exfalso; omega)) | (with_reducible refine Way.nt ?_) | ((with_reducible refine Way.mk (fun _ => ?_) (fun _ => ?_)) <;> try (exfalso; rename_i hw; first | exact Bool.noConfusion ((Go.RowKit.Hid.out hc).symm.trans hw) | exact Bool.noConfusion (hw.symm.trans (Go.RowKit.Hid.out hc)))) | (with_reducible refine Drawn.mk (by kernel_rfl) ?_) | (refine Run.mk ?_)))
        refine Back.by (k + 1) ?_ ?_ ?_
        · rw [hnt]
          (refine Wk.keep ?_ ?_ <;> repeat' (first | exact True.intro | refine And.intro rfl ?_ | refine And.intro (congrArg (fun z : Int => AV.v false [Lf.d (.int .i64) z]) (by first | omega | (simp only [Int.natCast_add, List.length_cons, List.length_append, List.length_nil]; omega))) ?_ | refine And.intro ?_ ?_))
        · exact hlt
        · show l.length - (k + 1) < l.length - k; omega
      · rw [hc] at hnt
        have hnt : nCf (l.take (k + 1)) = nCf (l.take k) + 1 := hnt
        replace hc := Lib.hid hc
        replace hg := Lib.hid hg
        (repeat' (first | (with_reducible refine Cend.go ?_) | (with_reducible refine Step.mk True.intro ?_) | (with_reducible refine Step.mk ?_ ?_; focus (((try simp only [true_and, and_true, and_self, kmin, kmax, decide_eq_true_eq, decide_eq_false_iff_not, castD_self, castL_self, List.length_cons, List.length_nil, List.length_append, Int.natCast_add] at *) <;> omega))) | (with_reducible refine Step.mk ?_ ?_) | (with_reducible refine Way.t1 ?_) | (with_reducible refine Way.f1 ?_) | ((with_reducible refine Way.dec (fun _ => ?_) (fun _ => ?_)) <;> try (exfalso; omega)) | (with_reducible refine Way.nt ?_) | ((with_reducible refine Way.mk (fun _ => ?_) (fun _ => ?_)) <;> try (exfalso; rename_i hw; first | exact Bool.noConfusion ((Go.RowKit.Hid.out hc).symm.trans hw) | exact Bool.noConfusion (hw.symm.trans (Go.RowKit.Hid.out hc)))) | (with_reducible refine Drawn.mk (by kernel_rfl) ?_) | (refine Run.mk ?_)))
        refine Back.by (k + 1) ?_ ?_ ?_
        · rw [hnt]
          (refine Wk.keep ?_ ?_ <;> repeat' (first | exact True.intro | refine And.intro rfl ?_ | refine And.intro (congrArg (fun z : Int => AV.v false [Lf.d (.int .i64) z]) (by first | omega | (simp only [Int.natCast_add, List.length_cons, List.length_append, List.length_nil]; omega))) ?_ | refine And.intro ?_ ?_))
        · exact hlt
        · show l.length - (k + 1) < l.length - k; omega
    · have e : l.take k = l := List.take_of_length_le (by omega)
      rw [e]
      clear e hnk
      by_cases hch : ch.length = nCf l
      · (repeat' (first | (with_reducible refine Cend.go ?_) | (with_reducible refine Step.mk True.intro ?_) | (with_reducible refine Step.mk ?_ ?_; focus (((try simp only [true_and, and_true, and_self, kmin, kmax, decide_eq_true_eq, decide_eq_false_iff_not, castD_self, castL_self, List.length_cons, List.length_nil, List.length_append, Int.natCast_add] at *) <;> omega))) | (with_reducible refine Step.mk ?_ ?_) | (with_reducible refine Way.t1 ?_) | (with_reducible refine Way.f1 ?_) | ((with_reducible refine Way.dec (fun _ => ?_) (fun _ => ?_)) <;> try (exfalso; omega)) | (with_reducible refine Way.nt ?_) | (with_reducible refine Way.mk (fun _ => ?_) (fun _ => ?_)) | (with_reducible refine Drawn.mk (by kernel_rfl) ?_) | (refine Run.mk ?_)))
        -- the choices are choices
        refine loop_by (X := Nat) (fun x => [.put 0 (.v false [.d (.slice tCh) l]), .put 1 (.v false [.d (.slice (.int .i64)) ch]), .put 5 (.v false [.p 5 0]), .put 38 (.v false [.d (.slice (.int .i64)) ch]), .put 39 (.v false [.d (.int .i64) (ch.length : Int)]), .put 40 (.v false [.d (.int .i64) (x : Int)])])
          (fun x => [.put 5 (.box 25 [.d (.int .i64) 0, .d (.int .i64) 0])]) (fun x => x ≤ ch.length ∧ badI 0 ch = badI x (ch.drop x)) (fun x => ch.length - x) 0 ⟨Nat.zero_le _, rfl⟩ ?_ ?_
        · (refine Wk.keep ?_ ?_ <;> repeat' (first | exact True.intro | refine And.intro rfl ?_ | refine And.intro (congrArg (fun z : Int => AV.v false [Lf.d (.int .i64) z]) (by first | omega | (simp only [Int.natCast_add, List.length_cons, List.length_append, List.length_nil]; omega))) ?_ | refine And.intro ?_ ?_))
        rintro x ⟨hx, hbd⟩
        (try dsimp only at hx hbd ⊢)
        by_cases hxt : x < ch.length
        · have hg : ch.getD ((x : Int)).toNat (Ty.int .i64).dflt = ch[x] := getD_at (Ty.int .i64).dflt hxt
          rw [badI_step hxt, ← hg] at hbd
          replace hg := Lib.hid hg
          have bad : ch.getD ((x : Int)).toNat (Ty.int .i64).dflt < 0 ∨ 3 < ch.getD ((x : Int)).toNat (Ty.int .i64).dflt → rsF l ch = (3, -3 - (x : Int)) ∧ rsL l ch = [] := fun z => by
            rw [if_pos z] at hbd
            have e1 : rsF l ch = (3, -3 - (x : Int)) := by unfold rsF; rw [if_neg (fun z => z hv0), if_neg (fun z => z hch), hbd]
            exact ⟨e1, by unfold rsL; rw [e1]; rfl⟩
          have good : ¬ (ch.getD ((x : Int)).toNat (Ty.int .i64).dflt < 0 ∨ 3 < ch.getD ((x : Int)).toNat (Ty.int .i64).dflt) → badI 0 ch = badI (x + 1) (ch.drop (x + 1)) := fun z => hbd.trans (if_neg z)
          replace bad := Lib.hid bad
          replace good := Lib.hid good
          clear hbd
          (repeat' (first | (with_reducible refine Cend.go ?_) | (with_reducible refine Step.mk True.intro ?_) | (with_reducible refine Step.mk ?_ ?_; focus (((try simp only [true_and, and_true, and_self, kmin, kmax, decide_eq_true_eq, decide_eq_false_iff_not, castD_self, castL_self, List.length_cons, List.length_nil, List.length_append, Int.natCast_add] at *) <;> omega))) | (with_reducible refine Step.mk ?_ ?_) | (with_reducible refine Way.t1 ?_) | (with_reducible refine Way.f1 ?_) | ((with_reducible refine Way.dec (fun _ => ?_) (fun _ => ?_)) <;> try (exfalso; omega)) | (with_reducible refine Way.nt ?_) | (with_reducible refine Way.mk (fun _ => ?_) (fun _ => ?_)) | (with_reducible refine Drawn.mk (by kernel_rfl) ?_) | (refine Run.mk ?_)))
          · rename_i q
            obtain ⟨e1, e3⟩ := bad.out (.inl q)
            refine Ret.mk ?_
            rw [e1, e3]
            exact ⟨⟨rfl, .frz rfl, True.intro⟩, ⟨rfl, .same, .same, True.intro⟩, True.intro⟩
          · rename_i q
            obtain ⟨e1, e3⟩ := bad.out (.inr q)
            refine Ret.mk ?_
            rw [e1, e3]
            exact ⟨⟨rfl, .frz rfl, True.intro⟩, ⟨rfl, .same, .same, True.intro⟩, True.intro⟩
          · rename_i q1 q2
            refine Back.by (x + 1) ?_ ?_ ?_
            · (refine Wk.keep ?_ ?_ <;> repeat' (first | exact True.intro | refine And.intro rfl ?_ | refine And.intro (congrArg (fun z : Int => AV.v false [Lf.d (.int .i64) z]) (by first | omega | (simp only [Int.natCast_add, List.length_cons, List.length_append, List.length_nil]; omega))) ?_ | refine And.intro ?_ ?_))
            · exact ⟨hxt, good.out (fun z => z.elim q1 q2)⟩
            · show ch.length - (x + 1) < ch.length - x; omega
        · have hbd : badI 0 ch = none := by rw [hbd, List.drop_eq_nil_of_le (by omega)]; rfl
          have hcb := badI_none.1 hbd
          replace hcb := Lib.hid hcb
          (repeat' (first | (with_reducible refine Cend.go ?_) | (with_reducible refine Step.mk True.intro ?_) | (with_reducible refine Step.mk ?_ ?_; focus (((try simp only [true_and, and_true, and_self, kmin, kmax, decide_eq_true_eq, decide_eq_false_iff_not, castD_self, castL_self, List.length_cons, List.length_nil, List.length_append, Int.natCast_add] at *) <;> omega))) | (with_reducible refine Step.mk ?_ ?_) | (with_reducible refine Way.t1 ?_) | (with_reducible refine Way.f1 ?_) | ((with_reducible refine Way.dec (fun _ => ?_) (fun _ => ?_)) <;> try (exfalso; omega)) | (with_reducible refine Way.nt ?_) | (with_reducible refine Way.mk (fun _ => ?_) (fun _ => ?_)) | (with_reducible refine Drawn.mk (by kernel_rfl) ?_) | (refine Run.mk ?_)))
          refine loop_by (X := Nat × List ByteArray) (fun x => [.put 0 (.v false [.d (.slice tCh) l]), .put 1 (.v false [.d (.slice (.int .i64)) ch]), .put 5 (.v false [.p 5 0]), .put 12 (.v false [.o 91]), .put 13 (.v false [.d (.int .i64) (nCf (l.take x.1) : Int)]), .put 55 (.v false [.d (.slice tCh) l]), .put 56 (.v false [.d (.int .i64) (l.length : Int)]), .put 57 (.v false [.d (.int .i64) (x.1 : Int)])])
            (fun x => [.put 5 (.box 25 [.d (.int .i64) 0, .d (.int .i64) 0]), .put 91 (.row 9 .str x.2)]) (fun x => x.1 ≤ l.length ∧ rsN l ch = x.2 ++ rsN (l.drop x.1) (ch.drop (nCf (l.take x.1))) ∧ x.2.length ≤ 240 * x.1) (fun x => l.length - x.1) (0, []) ⟨Nat.zero_le _, rfl, Nat.le_refl _⟩ ?_ ?_
          · refine (Wk.nilrow 12 91 9 .str rfl).trans ?_
            (refine Wk.keep ?_ ?_ <;> repeat' (first | exact True.intro | refine And.intro rfl ?_ | refine And.intro (congrArg (fun z : Int => AV.v false [Lf.d (.int .i64) z]) (by first | omega | (simp only [Int.natCast_add, List.length_cons, List.length_append, List.length_nil]; omega))) ?_ | refine And.intro ?_ ?_))
          rintro ⟨y, M⟩ ⟨hy, hr, hm⟩
          dsimp only at hy hr hm ⊢
          by_cases hyt : y < l.length
          · have hg : l.getD ((y : Int)).toNat tCh.dflt = l[y] := getD_at tCh.dflt hyt
            have hb := pickC_len (hall.out l[y] (List.getElem_mem hyt))
            have hnt := nCf_take hyt
            have hno := @rsN_no l y hyt
            have hye := @rsN_yes l y (nCf (l.take y)) hyt
            have hle := nCf_le l (y + 1)
            rw [← hg] at hb hnt
            cases hc : (l.getD ((y : Int)).toNat tCh.dflt).1
            · have hno := hno (by rw [← hg]; exact hc) (ch.drop (nCf (l.take y)))
              rw [← hg] at hno
              rw [hno] at hr
              rw [hc] at hnt
              have hnt : nCf (l.take (y + 1)) = nCf (l.take y) := hnt
              obtain ⟨b0, b1, b2, b3, b4⟩ := hb 0
              clear hno hye hb
              replace hc := Lib.hid hc
              replace hg := Lib.hid hg
              replace hr := Lib.hid hr
              (repeat' (first | (with_reducible refine Cend.go ?_) | (with_reducible refine Step.mk True.intro ?_) | (with_reducible refine Step.mk ?_ ?_; focus (((try simp only [true_and, and_true, and_self, kmin, kmax, decide_eq_true_eq, decide_eq_false_iff_not, castD_self, castL_self, List.length_cons, List.length_nil, List.length_append, Int.natCast_add] at *) <;> omega))) | (with_reducible refine Step.mk ?_ ?_) | (with_reducible refine Way.t1 ?_) | (with_reducible refine Way.f1 ?_) | ((with_reducible refine Way.dec (fun _ => ?_) (fun _ => ?_)) <;> try (exfalso; omega)) | (with_reducible refine Way.nt ?_) | ((with_reducible refine Way.mk (fun _ => ?_) (fun _ => ?_)) <;> try (exfalso; rename_i hw; first | exact Bool.noConfusion ((Go.RowKit.Hid.out hc).symm.trans hw) | exact Bool.noConfusion (hw.symm.trans (Go.RowKit.Hid.out hc)))) | (with_reducible refine Drawn.mk (by kernel_rfl) ?_) | (refine Run.mk ?_)))
              refine Back.by (y + 1, M ++ (l.getD ((y : Int)).toNat tCh.dflt).2.1) ?_ ?_ ?_
              · rw [hnt]
                (refine Wk.ren [(91, 67)] rfl ?_ ?_ <;> repeat' (first | exact True.intro | refine And.intro rfl ?_ | refine And.intro (congrArg (fun z : Int => AV.v false [Lf.d (.int .i64) z]) (by first | omega | (simp only [Int.natCast_add, List.length_cons, List.length_append, List.length_nil]; omega))) ?_ | refine And.intro ?_ ?_))
              · refine ⟨hyt, ?_, ?_⟩
                · dsimp only
                  rw [hnt]
                  exact hr.out.trans (List.append_assoc _ _ _).symm
                · show (M ++ (l.getD ((y : Int)).toNat tCh.dflt).2.1).length ≤ 240 * (y + 1)
                  rw [List.length_append]; omega
              · show l.length - (y + 1) < l.length - y; omega
            · have hye := hye (by rw [← hg]; exact hc) ch
              rw [← hg] at hye
              rw [hye] at hr
              rw [hc] at hnt
              have hnt : nCf (l.take (y + 1)) = nCf (l.take y) + 1 := hnt
              have hjt : nCf (l.take y) < ch.length := by omega
              have hgj : ch.getD (((nCf (l.take y) : Nat) : Int)).toNat (Ty.int .i64).dflt = ch[nCf (l.take y)] := getD_at (Ty.int .i64).dflt hjt
              have hn := hcb.out _ (List.getElem_mem hjt)
              rw [← hgj] at hn
              have hgj2 : ch.getD (nCf (l.take y)) 0 = ch.getD (((nCf (l.take y) : Nat) : Int)).toNat (Ty.int .i64).dflt := by rw [Int.toNat_natCast]; rfl
              rw [hgj2] at hr
              have b0 := (hb (ch.getD (((nCf (l.take y) : Nat) : Int)).toNat (Ty.int .i64).dflt)).1
              obtain ⟨-, b1, b2, b3, b4⟩ := hb 0
              clear hno hye hb hgj2
              obtain ⟨J, hJ⟩ : ∃ J, nCf (l.take y) = J := ⟨_, rfl⟩
              clear hgj
              rw [hJ] at hnt hjt hn hr b0 ⊢
              replace hJ := Lib.hid hJ
              replace hc := Lib.hid hc
              replace hg := Lib.hid hg
              replace hr := Lib.hid hr
              (repeat' (first | (with_reducible refine Cend.go ?_) | (with_reducible refine Step.mk True.intro ?_) | (with_reducible refine Step.mk ?_ ?_; focus (((try simp only [true_and, and_true, and_self, kmin, kmax, decide_eq_true_eq, decide_eq_false_iff_not, castD_self, castL_self, List.length_cons, List.length_nil, List.length_append, Int.natCast_add] at *) <;> omega))) | (with_reducible refine Step.mk ?_ ?_) | (with_reducible refine Way.t1 ?_) | (with_reducible refine Way.f1 ?_) | ((with_reducible refine Way.dec (fun _ => ?_) (fun _ => ?_)) <;> try (exfalso; omega)) | (with_reducible refine Way.nt ?_) | ((with_reducible refine Way.mk (fun _ => ?_) (fun _ => ?_)) <;> try (exfalso; rename_i hw; first | exact Bool.noConfusion ((Go.RowKit.Hid.out hc).symm.trans hw) | exact Bool.noConfusion (hw.symm.trans (Go.RowKit.Hid.out hc)))) | (with_reducible refine Drawn.mk (by kernel_rfl) ?_) | (refine Run.mk ?_)))
              · rename_i q0
                have ep : pickC (l.getD ((y : Int)).toNat tCh.dflt) (ch.getD (((J : Nat) : Int)).toNat (Ty.int .i64).dflt) = (l.getD ((y : Int)).toNat tCh.dflt).2.2.1 := by unfold pickC; rw [if_pos q0]
                have hr := hr.out
                rw [ep] at hr b0
                replace hr := Lib.hid hr
                refine Back.by (y + 1, M ++ (l.getD ((y : Int)).toNat tCh.dflt).2.2.1) ?_ ?_ ?_
                · rw [hnt]
                  (refine Wk.ren [(91, 84)] rfl ?_ ?_ <;> repeat' (first | exact True.intro | refine And.intro rfl ?_ | refine And.intro (congrArg (fun z : Int => AV.v false [Lf.d (.int .i64) z]) (by first | omega | (simp only [Int.natCast_add, List.length_cons, List.length_append, List.length_nil]; omega))) ?_ | refine And.intro ?_ ?_))
                · refine ⟨hyt, ?_, ?_⟩
                  · dsimp only
                    rw [hnt]
                    exact hr.out.trans (List.append_assoc _ _ _).symm
                  · show (M ++ (l.getD ((y : Int)).toNat tCh.dflt).2.2.1).length ≤ 240 * (y + 1)
                    rw [List.length_append]; omega
                · show l.length - (y + 1) < l.length - y; omega
              · rename_i q0 q1
                have ep : pickC (l.getD ((y : Int)).toNat tCh.dflt) (ch.getD (((J : Nat) : Int)).toNat (Ty.int .i64).dflt) = (l.getD ((y : Int)).toNat tCh.dflt).2.2.2.1 := by unfold pickC; rw [if_neg q0, if_pos q1]
                have hr := hr.out
                rw [ep] at hr b0
                replace hr := Lib.hid hr
                refine Back.by (y + 1, M ++ (l.getD ((y : Int)).toNat tCh.dflt).2.2.2.1) ?_ ?_ ?_
                · rw [hnt]
                  (refine Wk.ren [(91, 90)] rfl ?_ ?_ <;> repeat' (first | exact True.intro | refine And.intro rfl ?_ | refine And.intro (congrArg (fun z : Int => AV.v false [Lf.d (.int .i64) z]) (by first | omega | (simp only [Int.natCast_add, List.length_cons, List.length_append, List.length_nil]; omega))) ?_ | refine And.intro ?_ ?_))
                · refine ⟨hyt, ?_, ?_⟩
                  · dsimp only
                    rw [hnt]
                    exact hr.out.trans (List.append_assoc _ _ _).symm
                  · show (M ++ (l.getD ((y : Int)).toNat tCh.dflt).2.2.2.1).length ≤ 240 * (y + 1)
                    rw [List.length_append]; omega
                · show l.length - (y + 1) < l.length - y; omega
              · rename_i q0 q1 q2
                have ep : pickC (l.getD ((y : Int)).toNat tCh.dflt) (ch.getD (((J : Nat) : Int)).toNat (Ty.int .i64).dflt) = (l.getD ((y : Int)).toNat tCh.dflt).2.2.2.2 := by unfold pickC; rw [if_neg q0, if_neg q1, if_pos q2]
                have hr := hr.out
                rw [ep] at hr b0
                replace hr := Lib.hid hr
                refine Back.by (y + 1, M ++ (l.getD ((y : Int)).toNat tCh.dflt).2.2.2.2) ?_ ?_ ?_
                · rw [hnt]
                  (refine Wk.ren [(91, 96)] rfl ?_ ?_ <;> repeat' (first | exact True.intro | refine And.intro rfl ?_ | refine And.intro (congrArg (fun z : Int => AV.v false [Lf.d (.int .i64) z]) (by first | omega | (simp only [Int.natCast_add, List.length_cons, List.length_append, List.length_nil]; omega))) ?_ | refine And.intro ?_ ?_))
                · refine ⟨hyt, ?_, ?_⟩
                  · dsimp only
                    rw [hnt]
                    exact hr.out.trans (List.append_assoc _ _ _).symm
                  · show (M ++ (l.getD ((y : Int)).toNat tCh.dflt).2.2.2.2).length ≤ 240 * (y + 1)
                    rw [List.length_append]; omega
                · show l.length - (y + 1) < l.length - y; omega
              · rename_i q0 q1 q2
                have ep : pickC (l.getD ((y : Int)).toNat tCh.dflt) (ch.getD (((J : Nat) : Int)).toNat (Ty.int .i64).dflt) = ((l.getD ((y : Int)).toNat tCh.dflt).2.2.2.1 ++ (l.getD ((y : Int)).toNat tCh.dflt).2.2.2.2) := by unfold pickC; rw [if_neg q0, if_neg q1, if_neg q2]
                have hr := hr.out
                rw [ep] at hr b0
                replace hr := Lib.hid hr
                refine Back.by (y + 1, M ++ ((l.getD ((y : Int)).toNat tCh.dflt).2.2.2.1 ++ (l.getD ((y : Int)).toNat tCh.dflt).2.2.2.2)) ?_ ?_ ?_
                · rw [hnt]
                  rw [← List.append_assoc] 
                  (refine Wk.ren [(91, 78)] rfl ?_ ?_ <;> repeat' (first | exact True.intro | refine And.intro rfl ?_ | refine And.intro (congrArg (fun z : Int => AV.v false [Lf.d (.int .i64) z]) (by first | omega | (simp only [Int.natCast_add, List.length_cons, List.length_append, List.length_nil]; omega))) ?_ | refine And.intro ?_ ?_))
                · refine ⟨hyt, ?_, ?_⟩
                  · dsimp only
                    rw [hnt]
                    exact hr.out.trans (List.append_assoc _ _ _).symm
                  · show (M ++ ((l.getD ((y : Int)).toNat tCh.dflt).2.2.2.1 ++ (l.getD ((y : Int)).toNat tCh.dflt).2.2.2.2)).length ≤ 240 * (y + 1)
                    rw [List.length_append]; omega
                · show l.length - (y + 1) < l.length - y; omega
          · rw [List.drop_eq_nil_of_le (by omega)] at hr
            have hr : rsN l ch = M := hr.trans (List.append_nil M)
            subst hr
            by_cases h120 : 120 < (rsN l ch).length
            · have e1 : rsF l ch = (10, -1) := by unfold rsF; rw [if_neg (fun z => z hv0), if_neg (fun z => z hch), hbd]; exact if_pos h120
              have e3 : rsL l ch = [] := by unfold rsL; rw [e1]; rfl
              (repeat' (first | (with_reducible refine Cend.go ?_) | (with_reducible refine Step.mk True.intro ?_) | (with_reducible refine Step.mk ?_ ?_; focus (((try simp only [true_and, and_true, and_self, kmin, kmax, decide_eq_true_eq, decide_eq_false_iff_not, castD_self, castL_self, List.length_cons, List.length_nil, List.length_append, Int.natCast_add] at *) <;> omega))) | (with_reducible refine Step.mk ?_ ?_) | (with_reducible refine Way.t1 ?_) | (with_reducible refine Way.f1 ?_) | ((with_reducible refine Way.dec (fun _ => ?_) (fun _ => ?_)) <;> try (exfalso; omega)) | (with_reducible refine Way.nt ?_) | (with_reducible refine Way.mk (fun _ => ?_) (fun _ => ?_)) | (with_reducible refine Drawn.mk (by kernel_rfl) ?_) | (refine Run.mk ?_)))
              refine Ret.mk ?_
              rw [e1, e3]
              exact ⟨⟨rfl, .frz rfl, True.intro⟩, ⟨rfl, .same, .same, True.intro⟩, True.intro⟩
            · have e1 : rsF l ch = (0, 0) := by unfold rsF; rw [if_neg (fun z => z hv0), if_neg (fun z => z hch), hbd]; exact if_neg h120
              have e3 : rsL l ch = rsN l ch := by unfold rsL; rw [e1]; rfl
              (repeat' (first | (with_reducible refine Cend.go ?_) | (with_reducible refine Step.mk True.intro ?_) | (with_reducible refine Step.mk ?_ ?_; focus (((try simp only [true_and, and_true, and_self, kmin, kmax, decide_eq_true_eq, decide_eq_false_iff_not, castD_self, castL_self, List.length_cons, List.length_nil, List.length_append, Int.natCast_add] at *) <;> omega))) | (with_reducible refine Step.mk ?_ ?_) | (with_reducible refine Way.t1 ?_) | (with_reducible refine Way.f1 ?_) | ((with_reducible refine Way.dec (fun _ => ?_) (fun _ => ?_)) <;> try (exfalso; omega)) | (with_reducible refine Way.nt ?_) | (with_reducible refine Way.mk (fun _ => ?_) (fun _ => ?_)) | (with_reducible refine Drawn.mk (by kernel_rfl) ?_) | (refine Run.mk ?_)))
              refine Ret.mk ?_
              rw [e1, e3]
              exact ⟨⟨rfl, .frz rfl, True.intro⟩, ⟨rfl, .same, .same, True.intro⟩, True.intro⟩
      · have e1 : rsF l ch = (9, -2) := by unfold rsF; rw [if_neg (fun z => z hv0), if_pos hch]
        have e3 : rsL l ch = [] := by unfold rsL; rw [e1]; rfl
        (repeat' (first | (with_reducible refine Cend.go ?_) | (with_reducible refine Step.mk True.intro ?_) | (with_reducible refine Step.mk ?_ ?_; focus (((try simp only [true_and, and_true, and_self, kmin, kmax, decide_eq_true_eq, decide_eq_false_iff_not, castD_self, castL_self, List.length_cons, List.length_nil, List.length_append, Int.natCast_add] at *) <;> omega))) | (with_reducible refine Step.mk ?_ ?_) | (with_reducible refine Way.t1 ?_) | (with_reducible refine Way.f1 ?_) | ((with_reducible refine Way.dec (fun _ => ?_) (fun _ => ?_)) <;> try (exfalso; omega)) | (with_reducible refine Way.nt ?_) | (with_reducible refine Way.mk (fun _ => ?_) (fun _ => ?_)) | (with_reducible refine Drawn.mk (by kernel_rfl) ?_) | (refine Run.mk ?_)))
        refine Ret.mk ?_
        rw [e1, e3]
        exact ⟨⟨rfl, .frz rfl, True.intro⟩, ⟨rfl, .same, .same, True.intro⟩, True.intro⟩
  · have hv : (decide (ckC l = 0) && decide (ckI l = 0)) = false := by rw [decide_eq_false hv0]; rfl
    have e1 : rsF l ch = (ckC l, ckI l) := if_pos hv0
    have e3 : rsL l ch = [] := by unfold rsL; rw [e1]; exact if_neg hv0
    replace hv := Lib.hid hv
    (refine fnM_of rfl rfl rfl rfl ?_; dsimp only [params, argAV, Ty.leaves, Ty.isSt])
    (repeat' (first | (with_reducible refine Cend.go ?_) | (with_reducible refine Step.mk True.intro ?_) | (with_reducible refine Step.mk ?_ ?_; focus (((try simp only [true_and, and_true, and_self, kmin, kmax, decide_eq_true_eq, decide_eq_false_iff_not, castD_self, castL_self, List.length_cons, List.length_nil, List.length_append, Int.natCast_add] at *) <;> omega))) | (with_reducible refine Step.mk ?_ ?_) | (with_reducible refine Way.t1 ?_) | (with_reducible refine Way.f1 ?_) | ((with_reducible refine Way.dec (fun _ => ?_) (fun _ => ?_)) <;> try (exfalso; omega)) | (with_reducible refine Way.nt ?_) | ((with_reducible refine Way.mk (fun _ => ?_) (fun _ => ?_)) <;> try (exfalso; rename_i hw; first | exact Bool.noConfusion ((Go.RowKit.Hid.out hv).symm.trans hw) | exact Bool.noConfusion (hw.symm.trans (Go.RowKit.Hid.out hv)))) | (with_reducible refine Drawn.mk (by kernel_rfl) ?_) | (refine Run.mk ?_)))
    refine Ret.mk ?_
    rw [e1, e3]
    exact ⟨⟨rfl, .frz rfl, True.intro⟩, ⟨rfl, .same, .same, True.intro⟩, True.intro⟩
end Go.Proofs.Ytppmhjaooiameaa
