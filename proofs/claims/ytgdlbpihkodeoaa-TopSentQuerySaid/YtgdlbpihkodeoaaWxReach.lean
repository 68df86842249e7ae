/- The third reference's table of ancestors. -/
import Derived.Test.YtgdlbpihkodeoaaRchPure
import Derived.Test.YtgdlbpihkodeoaaWxOf
namespace Go.Proofs.Ytgdlbpihkodeoaa
open Go.RowKit
set_option maxRecDepth 20000
set_option linter.unusedSimpArgs false

noncomputable def sp_Reach : SpecF := ownSp false [.slice tCm] 51 (.slice .bool) (fun x => hC x.1 = 0) (fun x => tabR x.1 (List.length x.1))
set_option maxHeartbeats 1000000 in
theorem Reach_sp : SpFact 39 sp_Reach := by
  refine ⟨⟨Try.f39, rfl, rfl, rfl, ownSp_ok (env_fine (sp := []) (eq := []) True.intro True.intro) rfl (fun h => (by cases h)) ?_⟩, ownSp_loc _ _ _ _ _ _⟩
  rintro ⟨l, u⟩ - hC0
  change List Cm at l
  have hC0 : hC l = 0 := hC0
  have hl : l.length ≤ 60 := hC_len hC0
  have hp := parOk_of hC0
  have hb := hC_par hC0
  clear hC0
  replace hp := Lib.hid hp
  replace hb := Lib.hid hb
  dsimp only
  (refine fnM_of rfl rfl rfl rfl ?_; dsimp only [params, argAV, Ty.leaves, Ty.isSt])
  (repeat' (first | (with_reducible refine Cend.go ?_) | (with_reducible refine Step.mk True.intro ?_) | (with_reducible refine Step.mk ?_ ?_; focus (((try simp only [true_and, and_true, and_self, kmin, kmax, decide_eq_true_eq, decide_eq_false_iff_not, castD_self, castL_self, List.length_cons, List.length_nil, List.length_append, Int.natCast_add] at *) <;> omega))) | (with_reducible refine Step.mk ?_ ?_) | (with_reducible refine Way.t1 ?_) | (with_reducible refine Way.f1 ?_) | ((with_reducible refine Way.dec (fun _ => ?_) (fun _ => ?_)) <;> try (exfalso; omega)) | (with_reducible refine Way.nt ?_) | (with_reducible refine Way.mk (fun _ => ?_) (fun _ => ?_)) | (with_reducible refine Drawn.mk (by kernel_rfl) ?_) | (refine Run.mk ?_)))
  refine loop_by (X := Nat) (fun x => [.put 0 (.v false [.d (.slice tCm) l]), .put 3 (.v false [.o 91]), .put 4 (.v false [.d (.int .i64) (x : Int)])])
    (fun x => [.put 91 (.row 51 (.slice .bool) (tabR l x))]) (fun x => x ≤ l.length) (fun x => l.length - x) 0 (Nat.zero_le _) ?_ ?_
  · refine Wk.trans (Wk.nilrow 3 91 51 (.slice .bool) rfl) ?_
    (refine Wk.keep ?_ ?_ <;> repeat' (first | exact True.intro | refine And.intro rfl ?_ | refine And.intro (congrArg (fun z : Int => AV.v false [Lf.d (.int .i64) z]) (by first | omega | (simp only [Int.natCast_add, List.length_cons, List.length_append, List.length_nil]; omega))) ?_ | refine And.intro ?_ ?_))
  intro k hk
  by_cases hlt : k < l.length
  · have htl := tabR_len l k
    have hnx := tabR_next l k
    have hat : ∀ p : Int, 0 ≤ p → p < k → (tabR l k).getD p.toNat [] = rowR l p.toNat := fun p h0 h1 => tabR_at (by omega)
    obtain ⟨T, hT⟩ : ∃ T, tabR l k = T := ⟨_, rfl⟩
    rw [hT] at htl hnx hat ⊢
    clear hT
    replace hnx := Lib.hid hnx
    replace hat := Lib.hid hat
    have hm0 := mixR_0 (l := l) (i := k)
    (repeat' (first | (with_reducible refine Cend.go ?_) | (with_reducible refine Step.mk True.intro ?_) | (with_reducible refine Step.mk ?_ ?_; focus (((try simp only [true_and, and_true, and_self, kmin, kmax, decide_eq_true_eq, decide_eq_false_iff_not, castD_self, castL_self, List.length_cons, List.length_nil, List.length_append, Int.natCast_add] at *) <;> omega))) | (with_reducible refine Step.mk ?_ ?_) | (with_reducible refine Way.t1 ?_) | (with_reducible refine Way.f1 ?_) | ((with_reducible refine Way.dec (fun _ => ?_) (fun _ => ?_)) <;> try (exfalso; omega)) | (with_reducible refine Way.nt ?_) | (with_reducible refine Way.mk (fun _ => ?_) (fun _ => ?_)) | (with_reducible refine Drawn.mk (by kernel_rfl) ?_) | (refine Run.mk ?_)))
    · rw [List.length_replicate]; omega
    · rw [List.length_replicate]; omega
    refine loop_by (X := Nat) (fun x => [.put 0 (.v false [.d (.slice tCm) l]), .put 3 (.v false [.o 91]), .put 4 (.v false [.d (.int .i64) (k : Int)]), .put 5 (.v false [.o 92]), .put 6 (.v false [.d (.int .i64) (x : Int)])])
      (fun x => [.put 91 (.row 51 (.slice .bool) T), .put 92 (.row 4 .bool (mixR l k x))]) (fun x => x ≤ k) (fun x => k - x) 0 (Nat.zero_le _) ?_ ?_
    · (refine Wk.ren [(92, 16)] rfl ?_ ?_ <;> repeat' (first | exact True.intro | refine And.intro rfl ?_ | refine And.intro (congrArg (fun z : Int => AV.v false [Lf.d (.int .i64) z]) (by first | omega | (simp only [Int.natCast_add, List.length_cons, List.length_append, List.length_nil]; omega))) ?_ | refine And.intro ?_ ?_))
      all_goals skip
      rw [← hm0]; exact rfl
    clear hm0
    intro c hc
    by_cases hlc : c < k
    · have hg : l.getD ((k : Int)).toNat tCm.dflt = l[k] := getD_of _ hlt
      have hc0 := colR_0 hlt hlc
      have hc1 := colR_all hlt hlc
      have hpr := hp.out k hlt
      have hpl := hb.out _ (List.getElem_mem hlt)
      rw [← hg] at hc1 hpr hpl
      clear hg
      rw [← hc0]
      clear hc0
      replace hc1 := Lib.hid hc1
      replace hpr := Lib.hid hpr
      (repeat' (first | (with_reducible refine Cend.go ?_) | (with_reducible refine Step.mk True.intro ?_) | (with_reducible refine Step.mk ?_ ?_; focus (((try simp only [true_and, and_true, and_self, kmin, kmax, decide_eq_true_eq, decide_eq_false_iff_not, castD_self, castL_self, List.length_cons, List.length_nil, List.length_append, Int.natCast_add] at *) <;> omega))) | (with_reducible refine Step.mk ?_ ?_) | (with_reducible refine Way.t1 ?_) | (with_reducible refine Way.f1 ?_) | ((with_reducible refine Way.dec (fun _ => ?_) (fun _ => ?_)) <;> try (exfalso; omega)) | (with_reducible refine Way.nt ?_) | (with_reducible refine Way.mk (fun _ => ?_) (fun _ => ?_)) | (with_reducible refine Drawn.mk (by kernel_rfl) ?_) | (refine Run.mk ?_)))
      refine loop_by (X := Nat) (fun x => [.put 0 (.v false [.d (.slice tCm) l]), .put 3 (.v false [.o 91]), .put 4 (.v false [.d (.int .i64) (k : Int)]), .put 5 (.v false [.o 92]), .put 6 (.v false [.d (.int .i64) (c : Int)]), .put 7 (.v false [.d (.int .i64) (x : Int)])])
        (fun x => [.put 91 (.row 51 (.slice .bool) T), .put 92 (.row 4 .bool (colR l k c ((l.getD ((k : Int)).toNat tCm.dflt).1.take x)))]) (fun x => x ≤ (l.getD ((k : Int)).toNat tCm.dflt).1.length) (fun x => (l.getD ((k : Int)).toNat tCm.dflt).1.length - x) 0 (Nat.zero_le _) ?_ ?_
      · (refine Wk.keep ?_ ?_ <;> repeat' (first | exact True.intro | refine And.intro rfl ?_ | refine And.intro (congrArg (fun z : Int => AV.v false [Lf.d (.int .i64) z]) (by first | omega | (simp only [Int.natCast_add, List.length_cons, List.length_append, List.length_nil]; omega))) ?_ | refine And.intro ?_ ?_))
        all_goals skip
      intro q hq
      by_cases hlq : q < (l.getD ((k : Int)).toNat tCm.dflt).1.length
      · have hg : (l.getD ((k : Int)).toNat tCm.dflt).1.getD ((q : Int)).toNat (Ty.int .i64).dflt = (l.getD ((k : Int)).toNat tCm.dflt).1[q] := getD_of _ hlq
        obtain ⟨m0, m1⟩ := hpr.out _ (List.getElem_mem hlq)
        have hst := colR_next (l := l) (i := k) (k := c) hlq
        have hcl := colR_len l k c ((l.getD ((k : Int)).toNat tCm.dflt).1.take q)
        have hca := colR_at (l := l) (i := k) (k := c) (ps := (l.getD ((k : Int)).toNat tCm.dflt).1.take q) (by omega)
        rw [← hca, ← hg] at hst
        rw [← hg] at m0 m1
        clear hg hca
        have ht := hat.out _ m0 m1
        have hrl := rowR_len l ((l.getD ((k : Int)).toNat tCm.dflt).1.getD ((q : Int)).toNat (Ty.int .i64).dflt).toNat
        rw [← ht] at hst hrl
        have hrl : List.length (T.getD (Int.toNat ((l.getD ((k : Int)).toNat tCm.dflt).1.getD ((q : Int)).toNat (Ty.int .i64).dflt)) (Ty.slice .bool).dflt) = l.length := hrl
        clear ht
        generalize colR l k c ((l.getD ((k : Int)).toNat tCm.dflt).1.take q) = s2 at *
        replace hst := Lib.hid hst
        (repeat' (first | (with_reducible refine Cend.go ?_) | (with_reducible refine Step.mk True.intro ?_) | (with_reducible refine Step.mk ?_ ?_; focus (((try simp only [true_and, and_true, and_self, kmin, kmax, decide_eq_true_eq, decide_eq_false_iff_not, castD_self, castL_self, List.length_cons, List.length_nil, List.length_append, Int.natCast_add] at *) <;> omega))) | (with_reducible refine Step.mk ?_ ?_) | (with_reducible refine Way.t1 ?_) | (with_reducible refine Way.f1 ?_) | ((with_reducible refine Way.dec (fun _ => ?_) (fun _ => ?_)) <;> try (exfalso; omega)) | (with_reducible refine Way.nt ?_) | (with_reducible refine Way.mk (fun _ => ?_) (fun _ => ?_)) | (with_reducible refine Drawn.mk (by kernel_rfl) ?_) | (refine Run.mk ?_)))
        · rename_i hx
          have hx : s2.getD c false = true := hx
          (refine Back.by (q + 1) ?_ ?_ ?_; focus (refine Wk.keep ?_ ?_ <;> repeat' (first | exact True.intro | refine And.intro rfl ?_ | refine And.intro (congrArg (fun z : Int => AV.v false [Lf.d (.int .i64) z]) (by first | omega | (simp only [Int.natCast_add, List.length_cons, List.length_append, List.length_nil]; omega))) ?_ | refine And.intro ?_ ?_)))
          · rw [hst.out, hx, Bool.true_or]; exact rfl
          · exact hlq
          · show (l.getD ((k : Int)).toNat tCm.dflt).1.length - (q + 1) < (l.getD ((k : Int)).toNat tCm.dflt).1.length - q; omega
        · rename_i hx
          have hx : s2.getD c false = false := hx
          (refine Back.by (q + 1) ?_ ?_ ?_; focus (refine Wk.keep ?_ ?_ <;> repeat' (first | exact True.intro | refine And.intro rfl ?_ | refine And.intro (congrArg (fun z : Int => AV.v false [Lf.d (.int .i64) z]) (by first | omega | (simp only [Int.natCast_add, List.length_cons, List.length_append, List.length_nil]; omega))) ?_ | refine And.intro ?_ ?_)))
          · rw [hst.out, hx, Bool.false_or]; exact rfl
          · exact hlq
          · show (l.getD ((k : Int)).toNat tCm.dflt).1.length - (q + 1) < (l.getD ((k : Int)).toNat tCm.dflt).1.length - q; omega
      · have e : (l.getD ((k : Int)).toNat tCm.dflt).1.take q = (l.getD ((k : Int)).toNat tCm.dflt).1 := List.take_of_length_le (by omega)
        rw [e, hc1.out]
        (repeat' (first | (with_reducible refine Cend.go ?_) | (with_reducible refine Step.mk True.intro ?_) | (with_reducible refine Step.mk ?_ ?_; focus (((try simp only [true_and, and_true, and_self, kmin, kmax, decide_eq_true_eq, decide_eq_false_iff_not, castD_self, castL_self, List.length_cons, List.length_nil, List.length_append, Int.natCast_add] at *) <;> omega))) | (with_reducible refine Step.mk ?_ ?_) | (with_reducible refine Way.t1 ?_) | (with_reducible refine Way.f1 ?_) | ((with_reducible refine Way.dec (fun _ => ?_) (fun _ => ?_)) <;> try (exfalso; omega)) | (with_reducible refine Way.nt ?_) | (with_reducible refine Way.mk (fun _ => ?_) (fun _ => ?_)) | (with_reducible refine Drawn.mk (by kernel_rfl) ?_) | (refine Run.mk ?_)))
        (refine Back.by (c + 1) ?_ ?_ ?_; focus (refine Wk.keep ?_ ?_ <;> repeat' (first | exact True.intro | refine And.intro rfl ?_ | refine And.intro (congrArg (fun z : Int => AV.v false [Lf.d (.int .i64) z]) (by first | omega | (simp only [Int.natCast_add, List.length_cons, List.length_append, List.length_nil]; omega))) ?_ | refine And.intro ?_ ?_)))
        · exact hlc
        · show k - (c + 1) < k - c; omega
    · have e : c = k := by omega
      subst e
      rw [mixR_end hp.out]
      (repeat' (first | (with_reducible refine Cend.go ?_) | (with_reducible refine Step.mk True.intro ?_) | (with_reducible refine Step.mk ?_ ?_; focus (((try simp only [true_and, and_true, and_self, kmin, kmax, decide_eq_true_eq, decide_eq_false_iff_not, castD_self, castL_self, List.length_cons, List.length_nil, List.length_append, Int.natCast_add] at *) <;> omega))) | (with_reducible refine Step.mk ?_ ?_) | (with_reducible refine Way.t1 ?_) | (with_reducible refine Way.f1 ?_) | ((with_reducible refine Way.dec (fun _ => ?_) (fun _ => ?_)) <;> try (exfalso; omega)) | (with_reducible refine Way.nt ?_) | (with_reducible refine Way.mk (fun _ => ?_) (fun _ => ?_)) | (with_reducible refine Drawn.mk (by kernel_rfl) ?_) | (refine Run.mk ?_)))
      refine Back.by (c + 1) ?_ ?_ ?_
      · refine (Wk.pack 61 (E := 51) (t := .slice .bool) (x := rowR l c) (l1 := T) (l2 := []) (cs := [.o 92]) (hl' := []) rfl rfl True.intro rfl rfl).trans ?_
        (refine Wk.ren [(91, 61)] rfl ?_ ?_ <;> repeat' (first | exact True.intro | refine And.intro rfl ?_ | refine And.intro (congrArg (fun z : Int => AV.v false [Lf.d (.int .i64) z]) (by first | omega | (simp only [Int.natCast_add, List.length_cons, List.length_append, List.length_nil]; omega))) ?_ | refine And.intro ?_ ?_))
        rw [hnx.out]; exact rfl
      · exact hlt
      · show l.length - (c + 1) < l.length - c; omega
  · have e : k = l.length := by omega
    subst e
    (repeat' (first | (with_reducible refine Cend.go ?_) | (with_reducible refine Step.mk True.intro ?_) | (with_reducible refine Step.mk ?_ ?_; focus (((try simp only [true_and, and_true, and_self, kmin, kmax, decide_eq_true_eq, decide_eq_false_iff_not, castD_self, castL_self, List.length_cons, List.length_nil, List.length_append, Int.natCast_add] at *) <;> omega))) | (with_reducible refine Step.mk ?_ ?_) | (with_reducible refine Way.t1 ?_) | (with_reducible refine Way.f1 ?_) | ((with_reducible refine Way.dec (fun _ => ?_) (fun _ => ?_)) <;> try (exfalso; omega)) | (with_reducible refine Way.nt ?_) | (with_reducible refine Way.mk (fun _ => ?_) (fun _ => ?_)) | (with_reducible refine Drawn.mk (by kernel_rfl) ?_) | (refine Run.mk ?_)))
    exact Ret.mk (.inl ⟨_, rfl, rfl⟩)
end Go.Proofs.Ytgdlbpihkodeoaa
