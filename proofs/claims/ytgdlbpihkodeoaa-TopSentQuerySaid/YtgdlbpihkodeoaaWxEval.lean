/- revset.Eval, for queries that pass over a valid history. -/
import Derived.Test.YtgdlbpihkodeoaaEvTab
import Derived.Test.YtgdlbpihkodeoaaWxVal
import Derived.Test.YtgdlbpihkodeoaaWxOne
namespace Go.Proofs.Ytgdlbpihkodeoaa
open Go.RowKit
set_option maxRecDepth 20000
set_option linter.unusedSimpArgs false

noncomputable def sp_Eval : SpecF := pureSp false [.slice tCm, .st (.slice tNd)] (fun (l', ns', _) => EvPre l' ns') (fun (l', ns', _) => .tu [(false, [.d (.slice .bool) (evR l' ns')]), (true, [.d (.int .i64) 0, .d (.int .i64) 0])])
set_option maxHeartbeats 2000000 in
theorem Eval_sp : SpFact 33 sp_Eval := by
  refine ⟨⟨Try.f33, rfl, rfl, rfl, pureSp_ok (env_fine (sp := [(25, sp_HVal), (55, sp_QVal), (56, sp_Operands), (57, sp_leaf), (58, sp_one), (59, sp_minus)]) (eq := [(24, true)])
    ⟨HVal_sp, QVal_sp, Operands_sp, leaf_sp, one_sp, minus_sp, True.intro⟩ ⟨eq_fault, True.intro⟩) rfl (fun ⟨_, _⟩ _ => rfl) ?_⟩, pureSp_loc _ _ _ _⟩
  rintro ⟨l, ns, u⟩ - hpre
  change List Cm at l
  change List Nd at ns
  obtain ⟨hC0, hq, hev⟩ := (show EvPre l ns from hpre)
  have h0 : 0 < ns.length := hq.1
  have h40 : ns.length ≤ 40 := hq.2.1
  have hl : l.length ≤ 60 := hC_len hC0
  have hI0 : hI l = 0 := hI_good l hC0
  replace hq := Lib.hid hq
  replace hev := Lib.hid hev
  have hf : (decide (hC l = 0) && decide (hI l = 0)) = true := by rw [hC0, hI0]; rfl
  replace hf := Lib.hid hf
  have hCh := Lib.hid hC0
  have hf2 : (decide ((0 : Int) = 0) && decide ((0 : Int) = 0)) = true := rfl
  replace hf2 := Lib.hid hf2
  clear hpre hC0 hI0
  (refine fnM_of rfl rfl rfl rfl ?_; dsimp only [params, argAV, Ty.leaves, Ty.isSt])
  (repeat' (first | (with_reducible refine Cend.go ?_) | (with_reducible refine Step.mk True.intro ?_) | (with_reducible refine Step.mk ?_ ?_; focus (((try simp only [true_and, and_true, and_self, kmin, kmax, decide_eq_true_eq, decide_eq_false_iff_not, castD_self, castL_self, List.length_cons, List.length_nil, List.length_append, Int.natCast_add] at *) <;> omega))) | (with_reducible refine Step.mk ?_ ?_) | (with_reducible refine Way.t1 ?_) | (with_reducible refine Way.f1 ?_) | ((with_reducible refine Way.dec (fun zz => ?_) (fun zz => ?_)) <;> (try simp only [castD_self, castL_self] at zz) <;> try (exfalso; first | omega | contradiction)) | (with_reducible refine Way.nt ?_) | ((with_reducible refine Way.mk (fun _ => ?_) (fun _ => ?_)) <;> try (exfalso; rename_i hw; first | exact Bool.noConfusion ((Go.RowKit.Hid.out hf).symm.trans hw) | exact Bool.noConfusion (hw.symm.trans (Go.RowKit.Hid.out hf)) | exact Bool.noConfusion ((Go.RowKit.Hid.out hf2).symm.trans hw) | exact Bool.noConfusion (hw.symm.trans (Go.RowKit.Hid.out hf2)) | exact Bool.noConfusion ((Go.RowKit.Hid.out hf2).symm.trans hw) | exact Bool.noConfusion (hw.symm.trans (Go.RowKit.Hid.out hf2)))) | (with_reducible refine Drawn.mk (by kernel_rfl) ?_) | (refine Run.mk ?_)))
  · exact hq.out
  refine loop_by (X := Nat) (fun x => [.put 0 (.v false [.d (.slice tCm) l]), .put 3 (.v false [.p 3 0]), .put 5 (.v false [.p 5 0]), .put 8 (.v false [.o 33]), .put 35 (.v false [.d (.slice tNd) ns]), .put 36 (.v false [.d (.int .i64) (ns.length : Int)]), .put 37 (.v false [.d (.int .i64) (x : Int)])])
    (fun x => [.put 3 (.box 42 [.d (.slice tNd) ns]), .put 5 (.box 24 [.d (.int .i64) 0, .d (.int .i64) 0]), .put 33 (.row 51 (.slice .bool) (stS l ns x))]) (fun x => x ≤ ns.length) (fun x => ns.length - x) 0 (Nat.zero_le _) ?_ ?_
  · (refine Wk.keep ?_ ?_ <;> repeat' (first | exact True.intro | refine And.intro rfl ?_ | refine And.intro (congrArg (fun z : Int => AV.v false [Lf.d (.int .i64) z]) (by first | omega | (simp only [Int.natCast_add, List.length_cons, List.length_append, List.length_nil]; omega))) ?_ | refine And.intro ?_ ?_))
  intro k hk
  dsimp only at hk ⊢
  by_cases hlt : k < ns.length
  · have hS := stS_len (l := l) hk
    have hg : ns.getD ((k : Int)).toNat tNd.dflt = ns[k] := getD_of _ hlt
    have hn := hev.out k hlt
    have hnx := stS_next (l := l) hlt
    rw [evN_get hk hn, ← hg] at hnx
    rw [← hg] at hn
    have hgl : ∀ j : Int, 0 ≤ j → j < k → ((stS l ns k).getD j.toNat []).length = l.length := fun j q0 q1 => stS_glen hev.out hk (by omega)
    obtain ⟨S, hSe⟩ : ∃ S, stS l ns k = S := ⟨_, rfl⟩
    rw [hSe] at hS hnx hgl ⊢
    clear hSe hg
    have htk : (List.take k S).length = k := by rw [List.length_take]; omega
    replace hnx := Lib.hid hnx
    replace hgl := Lib.hid hgl
    rcases hn with ⟨ha, hk3⟩ | ⟨ha, hk3, q0, q1⟩ | ⟨ha, hk3, ⟨q0, q1⟩, q2, q3⟩
    · replace hk3 := Lib.hid hk3
      have hev0 : evN l S (ns.getD ((k : Int)).toNat tNd.dflt) = tabB (lfF (ns.getD ((k : Int)).toNat tNd.dflt)) l.length := if_pos ha
      rw [hev0] at hnx
      replace hnx := Lib.hid hnx.out
      (repeat' (first | (with_reducible refine Cend.go ?_) | (with_reducible refine Step.mk True.intro ?_) | (with_reducible refine Step.mk ?_ ?_; focus (((try simp only [true_and, and_true, and_self, kmin, kmax, decide_eq_true_eq, decide_eq_false_iff_not, castD_self, castL_self, List.length_cons, List.length_nil, List.length_append, Int.natCast_add] at *) <;> omega))) | (with_reducible refine Step.mk ?_ ?_) | (with_reducible refine Way.t1 ?_) | (with_reducible refine Way.f1 ?_) | ((with_reducible refine Way.dec (fun _ => ?_) (fun _ => ?_)) <;> try (exfalso; omega)) | (with_reducible refine Way.nt ?_) | (with_reducible refine Way.mk (fun _ => ?_) (fun _ => ?_)) | (with_reducible refine Drawn.mk (by kernel_rfl) ?_) | (refine Run.mk ?_)))
      generalize ns.getD ((k : Int)).toNat tNd.dflt = nd at *
      refine loop_by (X := Nat) (fun x => [.put 0 (.v false [.d (.slice tCm) l]), .put 3 (.v false [.p 3 0]), .put 5 (.v false [.p 5 0]), .put 8 (.v false [.o 33]), .put 9 (.v false [.d (.int .i64) (k : Int)]), .put 10 (.v false [.p 10 0]), .put 35 (.v false [.d (.slice tNd) ns]), .put 36 (.v false [.d (.int .i64) (ns.length : Int)]), .put 37 (.v false [.d (.int .i64) (k : Int)]),
          .put 113 (.v false [.d (.slice tCm) l]), .put 114 (.v false [.d (.int .i64) (l.length : Int)]), .put 115 (.v false [.d (.int .i64) (x : Int)])])
        (fun x => [.put 3 (.box 42 [.d (.slice tNd) ns]), .put 5 (.box 24 [.d (.int .i64) 0, .d (.int .i64) 0]), .put 10 (.box 77 [.d (.int .i64) nd.1, .d (.int .i64) nd.2.1, .d (.int .i64) nd.2.2.1, .d (.int .i64) nd.2.2.2]),
          .put 33 (.rox 51 (.slice .bool) (S.take k) [.o 111] (S.drop (k + 1))), .put 111 (.row 4 .bool (mixB (fun _ => false) (lfF nd) l.length x))]) (fun x => x ≤ l.length) (fun x => l.length - x) 0 (Nat.zero_le _) ?_ ?_
      · (refine Wk.keep ?_ ?_ <;> repeat' (first | exact True.intro | refine And.intro rfl ?_ | refine And.intro (congrArg (fun z : Int => AV.v false [Lf.d (.int .i64) z]) (by first | omega | (simp only [Int.natCast_add, List.length_cons, List.length_append, List.length_nil]; omega))) ?_ | refine And.intro ?_ ?_))
        all_goals skip
        rw [mixB_0, ← rep_tab]; exact rfl
      intro q hq
      by_cases hlq : q < l.length
      · have hlen := mixB_len (fun _ => false) (lfF nd) l.length q
        have hst := mixB_set (fun _ => false) (lfF nd) (n := l.length) (k := q)
        obtain ⟨r, hr⟩ : ∃ r, mixB (fun _ => false) (lfF nd) l.length q = r := ⟨_, rfl⟩
        rw [hr] at hlen hst ⊢
        clear hr hnx
        replace hst := Lib.hid hst
        (repeat' (first | (with_reducible refine Cend.go ?_) | (with_reducible refine Step.mk True.intro ?_) | (with_reducible refine Step.mk ?_ ?_; focus (((try simp only [true_and, and_true, and_self, kmin, kmax, decide_eq_true_eq, decide_eq_false_iff_not, castD_self, castL_self, List.length_cons, List.length_nil, List.length_append, Int.natCast_add] at *) <;> omega))) | (with_reducible refine Step.mk ?_ ?_) | (with_reducible refine Way.t1 ?_) | (with_reducible refine Way.f1 ?_) | ((with_reducible refine Way.dec (fun _ => ?_) (fun _ => ?_)) <;> try (exfalso; omega)) | (with_reducible refine Way.nt ?_) | (with_reducible refine Way.mk (fun _ => ?_) (fun _ => ?_)) | (with_reducible refine Drawn.mk (by kernel_rfl) ?_) | (refine Run.mk ?_)))
        · exact hk3.out
        · (refine Back.by (q + 1) ?_ ?_ ?_; focus (refine Wk.keep ?_ ?_ <;> repeat' (first | exact True.intro | refine And.intro rfl ?_ | refine And.intro (congrArg (fun z : Int => AV.v false [Lf.d (.int .i64) z]) (by first | omega | (simp only [Int.natCast_add, List.length_cons, List.length_append, List.length_nil]; omega))) ?_ | refine And.intro ?_ ?_)))
          · rw [← hst.out]; exact rfl
          · exact hlq
          · show l.length - (q + 1) < l.length - q; omega
      · have e : q = l.length := by omega
        subst e
        rw [mixB_n]
        (repeat' (first | (with_reducible refine Cend.go ?_) | (with_reducible refine Step.mk True.intro ?_) | (with_reducible refine Step.mk ?_ ?_; focus (((try simp only [true_and, and_true, and_self, kmin, kmax, decide_eq_true_eq, decide_eq_false_iff_not, castD_self, castL_self, List.length_cons, List.length_nil, List.length_append, Int.natCast_add] at *) <;> omega))) | (with_reducible refine Step.mk ?_ ?_) | (with_reducible refine Way.t1 ?_) | (with_reducible refine Way.f1 ?_) | ((with_reducible refine Way.dec (fun _ => ?_) (fun _ => ?_)) <;> try (exfalso; omega)) | (with_reducible refine Way.nt ?_) | (with_reducible refine Way.mk (fun _ => ?_) (fun _ => ?_)) | (with_reducible refine Drawn.mk (by kernel_rfl) ?_) | (refine Run.mk ?_)))
        refine Back.by (k + 1) ?_ ?_ ?_
        · refine (Wk.pack 33 (E := 51) (t := .slice .bool) (x := tabB (lfF nd) l.length) (l1 := S.take k) (l2 := S.drop (k + 1)) (cs := [.o 111]) (hl' := [.put 3 (.box 42 [.d (.slice tNd) ns]), .put 5 (.box 24 [.d (.int .i64) 0, .d (.int .i64) 0])]) rfl rfl ⟨rfl, rfl, True.intro⟩ rfl rfl).trans ?_
          (refine Wk.keep ?_ ?_ <;> repeat' (first | exact True.intro | refine And.intro rfl ?_ | refine And.intro (congrArg (fun z : Int => AV.v false [Lf.d (.int .i64) z]) (by first | omega | (simp only [Int.natCast_add, List.length_cons, List.length_append, List.length_nil]; omega))) ?_ | refine And.intro ?_ ?_))
          rw [← hnx.out]; exact rfl
        · exact hlt
        · show ns.length - (k + 1) < ns.length - k; omega
    · replace hk3 := Lib.hid hk3
      have hev0 : evN l S (ns.getD ((k : Int)).toNat tNd.dflt) = unB l (ns.getD ((k : Int)).toNat tNd.dflt).1 (S.getD (ns.getD ((k : Int)).toNat tNd.dflt).2.2.1.toNat []) := (if_neg (by omega)).trans (if_pos ha)
      rw [hev0] at hnx
      replace hnx := Lib.hid hnx.out
      (repeat' (first | (with_reducible refine Cend.go ?_) | (with_reducible refine Step.mk True.intro ?_) | (with_reducible refine Step.mk ?_ ?_; focus (((try simp only [true_and, and_true, and_self, kmin, kmax, decide_eq_true_eq, decide_eq_false_iff_not, castD_self, castL_self, List.length_cons, List.length_nil, List.length_append, Int.natCast_add] at *) <;> omega))) | (with_reducible refine Step.mk ?_ ?_) | (with_reducible refine Way.t1 ?_) | (with_reducible refine Way.f1 ?_) | ((with_reducible refine Way.dec (fun _ => ?_) (fun _ => ?_)) <;> try (exfalso; omega)) | (with_reducible refine Way.nt ?_) | (with_reducible refine Way.mk (fun _ => ?_) (fun _ => ?_)) | (with_reducible refine Drawn.mk (by kernel_rfl) ?_) | (refine Run.mk ?_)))
      · exact ⟨hCh.out, hgl.out _ q0 q1, hk3.out⟩
      refine Back.by (k + 1) ?_ ?_ ?_
      · refine (Wk.pack 33 (E := 51) (t := .slice .bool) (x := unB l (ns.getD ((k : Int)).toNat tNd.dflt).1 (S.getD (ns.getD ((k : Int)).toNat tNd.dflt).2.2.1.toNat [])) (l1 := S.take k) (l2 := S.drop (k + 1)) (cs := [.o 143]) (hl' := [.put 3 (.box 42 [.d (.slice tNd) ns]), .put 5 (.box 24 [.d (.int .i64) 0, .d (.int .i64) 0])]) rfl rfl ⟨rfl, rfl, True.intro⟩ rfl rfl).trans ?_
        (refine Wk.keep ?_ ?_ <;> repeat' (first | exact True.intro | refine And.intro rfl ?_ | refine And.intro (congrArg (fun z : Int => AV.v false [Lf.d (.int .i64) z]) (by first | omega | (simp only [Int.natCast_add, List.length_cons, List.length_append, List.length_nil]; omega))) ?_ | refine And.intro ?_ ?_))
        rw [← hnx.out]; exact rfl
      · exact hlt
      · show ns.length - (k + 1) < ns.length - k; omega
    · replace hk3 := Lib.hid hk3
      have hev0 : evN l S (ns.getD ((k : Int)).toNat tNd.dflt) = tabB (biF (ns.getD ((k : Int)).toNat tNd.dflt).1 (S.getD (ns.getD ((k : Int)).toNat tNd.dflt).2.2.1.toNat []) (S.getD (ns.getD ((k : Int)).toNat tNd.dflt).2.2.2.toNat [])) l.length := by
        refine (if_neg (by omega)).trans ((if_neg (by omega)).trans ?_)
        unfold biB
        rw [hgl.out _ q0 q1]
      rw [hev0] at hnx
      replace hnx := Lib.hid hnx.out
      have g1 : List.length (S.getD (Int.toNat (ns.getD ((k : Int)).toNat tNd.dflt).2.2.1) (Ty.slice .bool).dflt) = l.length := hgl.out _ q0 q1
      have g2 : List.length (S.getD (Int.toNat (ns.getD ((k : Int)).toNat tNd.dflt).2.2.2) (Ty.slice .bool).dflt) = l.length := hgl.out _ q2 q3
      change Hid (List.take k S ++ tabB (biF (ns.getD ((k : Int)).toNat tNd.dflt).1 (S.getD (Int.toNat (ns.getD ((k : Int)).toNat tNd.dflt).2.2.1) (Ty.slice .bool).dflt) (S.getD (Int.toNat (ns.getD ((k : Int)).toNat tNd.dflt).2.2.2) (Ty.slice .bool).dflt)) l.length :: List.drop (k + 1) S = _) at hnx
      (repeat' (first | (with_reducible refine Cend.go ?_) | (with_reducible refine Step.mk True.intro ?_) | (with_reducible refine Step.mk ?_ ?_; focus (((try simp only [true_and, and_true, and_self, kmin, kmax, decide_eq_true_eq, decide_eq_false_iff_not, castD_self, castL_self, List.length_cons, List.length_nil, List.length_append, Int.natCast_add] at *) <;> omega))) | (with_reducible refine Step.mk ?_ ?_) | (with_reducible refine Way.t1 ?_) | (with_reducible refine Way.f1 ?_) | ((with_reducible refine Way.dec (fun _ => ?_) (fun _ => ?_)) <;> try (exfalso; omega)) | (with_reducible refine Way.nt ?_) | (with_reducible refine Way.mk (fun _ => ?_) (fun _ => ?_)) | (with_reducible refine Drawn.mk (by kernel_rfl) ?_) | (refine Run.mk ?_)))
      generalize ns.getD ((k : Int)).toNat tNd.dflt = nd at *
      generalize S.getD (Int.toNat nd.2.2.1) (Ty.slice .bool).dflt = x at *
      generalize S.getD (Int.toNat nd.2.2.2) (Ty.slice .bool).dflt = y at *
      change List Bool at x y
      have g1 : x.length = l.length := g1
      have g2 : y.length = l.length := g2
      refine loop_by (X := Nat) (fun z => [.put 0 (.v false [.d (.slice tCm) l]), .put 3 (.v false [.p 3 0]), .put 5 (.v false [.p 5 0]), .put 8 (.v false [.o 33]), .put 9 (.v false [.d (.int .i64) (k : Int)]), .put 10 (.v false [.p 10 0]), .put 13 (.v false [.d (.slice .bool) x]), .put 14 (.v false [.d (.slice .bool) y]), .put 35 (.v false [.d (.slice tNd) ns]), .put 36 (.v false [.d (.int .i64) (ns.length : Int)]), .put 37 (.v false [.d (.int .i64) (k : Int)]),
          .put 62 (.v false [.d (.int .i64) (l.length : Int)]), .put 63 (.v false [.d (.int .i64) (z : Int)])])
        (fun z => [.put 3 (.box 42 [.d (.slice tNd) ns]), .put 5 (.box 24 [.d (.int .i64) 0, .d (.int .i64) 0]), .put 10 (.box 77 [.d (.int .i64) nd.1, .d (.int .i64) nd.2.1, .d (.int .i64) nd.2.2.1, .d (.int .i64) nd.2.2.2]),
          .put 33 (.rox 51 (.slice .bool) (S.take k) [.o 59] (S.drop (k + 1))), .put 59 (.row 4 .bool (mixB (minF x y) (biF nd.1 x y) l.length z))]) (fun z => z ≤ l.length) (fun z => l.length - z) 0 (Nat.zero_le _) ?_ ?_
      · (refine Wk.keep ?_ ?_ <;> repeat' (first | exact True.intro | refine And.intro rfl ?_ | refine And.intro (congrArg (fun z : Int => AV.v false [Lf.d (.int .i64) z]) (by first | omega | (simp only [Int.natCast_add, List.length_cons, List.length_append, List.length_nil]; omega))) ?_ | refine And.intro ?_ ?_))
        rw [mixB_0, ← g1]; exact rfl
      intro q hq
      by_cases hlq : q < l.length
      · have hlen := mixB_len (minF x y) (biF nd.1 x y) l.length q
        have hst := mixB_set (minF x y) (biF nd.1 x y) (n := l.length) (k := q)
        have hsm : nd.1 = 16 → mixB (minF x y) (biF nd.1 x y) l.length q = mixB (minF x y) (biF nd.1 x y) l.length (q + 1) := by
          intro e
          have : biF nd.1 x y = minF x y := by rw [e]; exact (if_neg (by decide)).trans (if_neg (by decide))
          rw [this]
          unfold mixB
          simp only [ite_self]
        obtain ⟨r, hr⟩ : ∃ r, mixB (minF x y) (biF nd.1 x y) l.length q = r := ⟨_, rfl⟩
        rw [hr] at hlen hst hsm ⊢
        clear hr hnx hgl hev0
        replace hst := Lib.hid hst
        replace hsm := Lib.hid hsm
        have hk4 := hk3.out
        rcases hk4 with e | e | e
        · have hb : biF nd.1 x y q = (x.getD q false || y.getD q false) := by unfold biF; rw [if_pos e]; rfl
          replace hb := Lib.hid hb
          (repeat' (first | (with_reducible refine Cend.go ?_) | (with_reducible refine Step.mk True.intro ?_) | (with_reducible refine Step.mk ?_ ?_; focus (((try simp only [true_and, and_true, and_self, kmin, kmax, decide_eq_true_eq, decide_eq_false_iff_not, castD_self, castL_self, List.length_cons, List.length_nil, List.length_append, Int.natCast_add] at *) <;> omega))) | (with_reducible refine Step.mk ?_ ?_) | (with_reducible refine Way.t1 ?_) | (with_reducible refine Way.f1 ?_) | ((with_reducible refine Way.dec (fun _ => ?_) (fun _ => ?_)) <;> try (exfalso; omega)) | (with_reducible refine Way.nt ?_) | (with_reducible refine Way.mk (fun _ => ?_) (fun _ => ?_)) | (with_reducible refine Drawn.mk (by kernel_rfl) ?_) | (refine Run.mk ?_)))
          · rename_i hx
            have hx : x.getD q false = true := hx
            (refine Back.by (q + 1) ?_ ?_ ?_; focus (refine Wk.keep ?_ ?_ <;> repeat' (first | exact True.intro | refine And.intro rfl ?_ | refine And.intro (congrArg (fun z : Int => AV.v false [Lf.d (.int .i64) z]) (by first | omega | (simp only [Int.natCast_add, List.length_cons, List.length_append, List.length_nil]; omega))) ?_ | refine And.intro ?_ ?_)))
            · rw [← hst.out, hb.out, hx]; exact rfl
            · exact hlq
            · show l.length - (q + 1) < l.length - q; omega
          · rename_i hx
            have hx : x.getD q false = false := hx
            (refine Back.by (q + 1) ?_ ?_ ?_; focus (refine Wk.keep ?_ ?_ <;> repeat' (first | exact True.intro | refine And.intro rfl ?_ | refine And.intro (congrArg (fun z : Int => AV.v false [Lf.d (.int .i64) z]) (by first | omega | (simp only [Int.natCast_add, List.length_cons, List.length_append, List.length_nil]; omega))) ?_ | refine And.intro ?_ ?_)))
            · rw [← hst.out, hb.out, hx]; exact rfl
            · exact hlq
            · show l.length - (q + 1) < l.length - q; omega
        · have hb : biF nd.1 x y q = (x.getD q false && y.getD q false) := by unfold biF; rw [if_neg (by omega), if_pos e]; rfl
          replace hb := Lib.hid hb
          (repeat' (first | (with_reducible refine Cend.go ?_) | (with_reducible refine Step.mk True.intro ?_) | (with_reducible refine Step.mk ?_ ?_; focus (((try simp only [true_and, and_true, and_self, kmin, kmax, decide_eq_true_eq, decide_eq_false_iff_not, castD_self, castL_self, List.length_cons, List.length_nil, List.length_append, Int.natCast_add] at *) <;> omega))) | (with_reducible refine Step.mk ?_ ?_) | (with_reducible refine Way.t1 ?_) | (with_reducible refine Way.f1 ?_) | ((with_reducible refine Way.dec (fun _ => ?_) (fun _ => ?_)) <;> try (exfalso; omega)) | (with_reducible refine Way.nt ?_) | (with_reducible refine Way.mk (fun _ => ?_) (fun _ => ?_)) | (with_reducible refine Drawn.mk (by kernel_rfl) ?_) | (refine Run.mk ?_)))
          · rename_i hx
            have hx : x.getD q false = true := hx
            (refine Back.by (q + 1) ?_ ?_ ?_; focus (refine Wk.keep ?_ ?_ <;> repeat' (first | exact True.intro | refine And.intro rfl ?_ | refine And.intro (congrArg (fun z : Int => AV.v false [Lf.d (.int .i64) z]) (by first | omega | (simp only [Int.natCast_add, List.length_cons, List.length_append, List.length_nil]; omega))) ?_ | refine And.intro ?_ ?_)))
            · rw [← hst.out, hb.out, hx]; exact rfl
            · exact hlq
            · show l.length - (q + 1) < l.length - q; omega
          · rename_i hx
            have hx : x.getD q false = false := hx
            (refine Back.by (q + 1) ?_ ?_ ?_; focus (refine Wk.keep ?_ ?_ <;> repeat' (first | exact True.intro | refine And.intro rfl ?_ | refine And.intro (congrArg (fun z : Int => AV.v false [Lf.d (.int .i64) z]) (by first | omega | (simp only [Int.natCast_add, List.length_cons, List.length_append, List.length_nil]; omega))) ?_ | refine And.intro ?_ ?_)))
            · rw [← hst.out, hb.out, hx]; exact rfl
            · exact hlq
            · show l.length - (q + 1) < l.length - q; omega
        · (repeat' (first | (with_reducible refine Cend.go ?_) | (with_reducible refine Step.mk True.intro ?_) | (with_reducible refine Step.mk ?_ ?_; focus (((try simp only [true_and, and_true, and_self, kmin, kmax, decide_eq_true_eq, decide_eq_false_iff_not, castD_self, castL_self, List.length_cons, List.length_nil, List.length_append, Int.natCast_add] at *) <;> omega))) | (with_reducible refine Step.mk ?_ ?_) | (with_reducible refine Way.t1 ?_) | (with_reducible refine Way.f1 ?_) | ((with_reducible refine Way.dec (fun _ => ?_) (fun _ => ?_)) <;> try (exfalso; omega)) | (with_reducible refine Way.nt ?_) | (with_reducible refine Way.mk (fun _ => ?_) (fun _ => ?_)) | (with_reducible refine Drawn.mk (by kernel_rfl) ?_) | (refine Run.mk ?_)))
          (refine Back.by (q + 1) ?_ ?_ ?_; focus (refine Wk.keep ?_ ?_ <;> repeat' (first | exact True.intro | refine And.intro rfl ?_ | refine And.intro (congrArg (fun z : Int => AV.v false [Lf.d (.int .i64) z]) (by first | omega | (simp only [Int.natCast_add, List.length_cons, List.length_append, List.length_nil]; omega))) ?_ | refine And.intro ?_ ?_)))
          · rw [hsm.out e]; exact rfl
          · exact hlq
          · show l.length - (q + 1) < l.length - q; omega
      · have e : q = l.length := by omega
        subst e
        rw [mixB_n]
        (repeat' (first | (with_reducible refine Cend.go ?_) | (with_reducible refine Step.mk True.intro ?_) | (with_reducible refine Step.mk ?_ ?_; focus (((try simp only [true_and, and_true, and_self, kmin, kmax, decide_eq_true_eq, decide_eq_false_iff_not, castD_self, castL_self, List.length_cons, List.length_nil, List.length_append, Int.natCast_add] at *) <;> omega))) | (with_reducible refine Step.mk ?_ ?_) | (with_reducible refine Way.t1 ?_) | (with_reducible refine Way.f1 ?_) | ((with_reducible refine Way.dec (fun _ => ?_) (fun _ => ?_)) <;> try (exfalso; omega)) | (with_reducible refine Way.nt ?_) | (with_reducible refine Way.mk (fun _ => ?_) (fun _ => ?_)) | (with_reducible refine Drawn.mk (by kernel_rfl) ?_) | (refine Run.mk ?_)))
        refine Back.by (k + 1) ?_ ?_ ?_
        · refine (Wk.pack 33 (E := 51) (t := .slice .bool) (x := tabB (biF nd.1 x y) l.length) (l1 := S.take k) (l2 := S.drop (k + 1)) (cs := [.o 59]) (hl' := [.put 3 (.box 42 [.d (.slice tNd) ns]), .put 5 (.box 24 [.d (.int .i64) 0, .d (.int .i64) 0])]) rfl rfl ⟨rfl, rfl, True.intro⟩ rfl rfl).trans ?_
          (refine Wk.keep ?_ ?_ <;> repeat' (first | exact True.intro | refine And.intro rfl ?_ | refine And.intro (congrArg (fun z : Int => AV.v false [Lf.d (.int .i64) z]) (by first | omega | (simp only [Int.natCast_add, List.length_cons, List.length_append, List.length_nil]; omega))) ?_ | refine And.intro ?_ ?_))
          rw [← hnx.out]; exact rfl
        · exact hlt
        · show ns.length - (k + 1) < ns.length - k; omega
  · have e : k = ns.length := by omega
    subst e
    have hS := stS_len (l := l) (Nat.le_refl ns.length)
    have hSn := stS_n l ns
    generalize stS l ns ns.length = S at *
    clear hk
    (repeat' (first | (with_reducible refine Cend.go ?_) | (with_reducible refine Step.mk True.intro ?_) | (with_reducible refine Step.mk ?_ ?_; focus (((try simp only [true_and, and_true, and_self, kmin, kmax, decide_eq_true_eq, decide_eq_false_iff_not, castD_self, castL_self, List.length_cons, List.length_nil, List.length_append, Int.natCast_add] at *) <;> omega))) | (with_reducible refine Step.mk ?_ ?_) | (with_reducible refine Way.t1 ?_) | (with_reducible refine Way.f1 ?_) | ((with_reducible refine Way.dec (fun _ => ?_) (fun _ => ?_)) <;> try (exfalso; omega)) | (with_reducible refine Way.nt ?_) | (with_reducible refine Way.mk (fun _ => ?_) (fun _ => ?_)) | (with_reducible refine Drawn.mk (by kernel_rfl) ?_) | (refine Run.mk ?_)))
    refine Ret.mk ?_
    have e1 : ((S.length : Int) - 1).toNat = ns.length - 1 := by omega
    show AV.tu [(false, [.d (.slice .bool) (S.getD ((S.length : Int) - 1).toNat (Ty.slice .bool).dflt)]), (true, [.d (.int .i64) 0, .d (.int .i64) 0])] = AV.tu [(false, [.d (.slice .bool) (evR l ns)]), (true, [.d (.int .i64) 0, .d (.int .i64) 0])]
    rw [e1, hSn]
    rfl
end Go.Proofs.Ytgdlbpihkodeoaa
