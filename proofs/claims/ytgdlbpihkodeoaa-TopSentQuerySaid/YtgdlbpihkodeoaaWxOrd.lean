/- history: children, Order. -/
import Derived.Test.YtgdlbpihkodeoaaOrdPure
import Derived.Test.YtgdlbpihkodeoaaWxOf
namespace Go.Proofs.Ytgdlbpihkodeoaa
open Go.RowKit
set_option maxRecDepth 20000
set_option linter.unusedSimpArgs false

def sp_chil : SpecF := ownSp false [.slice tCm] 3 (.int .i64) (fun x => hC x.1 = 0) (fun x => cF (List.length x.1) (flP x.1 (List.length x.1)))
theorem chil_sp : SpFact 64 sp_chil := by
  refine ⟨⟨Try.f64, rfl, rfl, rfl, ownSp_ok (env_fine (sp := []) (eq := []) True.intro True.intro) rfl (fun h => (by cases h)) ?_⟩, ownSp_loc _ _ _ _ _ _⟩
  rintro ⟨l, u⟩ - hC0
  change List Cm at l
  have hC0 : hC l = 0 := hC0
  have hl := hC_len hC0
  have hp := parOk_of hC0
  have hb := hC_par hC0
  clear hC0
  have hfl := fun k (h : k ≤ l.length) => flP_len hb k h
  replace hp := Lib.hid hp
  replace hb := Lib.hid hb
  replace hfl := Lib.hid hfl
  dsimp only
  (refine fnM_of rfl rfl rfl rfl ?_; dsimp only [params, argAV, Ty.leaves, Ty.isSt])
  (repeat' (first | (with_reducible refine Cend.go ?_) | (with_reducible refine Step.mk True.intro ?_) | (with_reducible refine Step.mk ?_ ?_; focus (((try simp only [true_and, and_true, and_self, kmin, kmax, decide_eq_true_eq, decide_eq_false_iff_not, castD_self, castL_self, List.length_cons, List.length_nil, List.length_append, Int.natCast_add] at *) <;> omega))) | (with_reducible refine Step.mk ?_ ?_) | (with_reducible refine Way.t1 ?_) | (with_reducible refine Way.f1 ?_) | ((with_reducible refine Way.dec (fun _ => ?_) (fun _ => ?_)) <;> try (exfalso; omega)) | (with_reducible refine Way.nt ?_) | (with_reducible refine Way.mk (fun _ => ?_) (fun _ => ?_)) | (with_reducible refine Drawn.mk (by kernel_rfl) ?_) | (refine Run.mk ?_)))
  refine loop_by (X := Nat) (fun x => [.put 3 (.v false [.o 10]), .put 11 (.v false [.d (.slice tCm) l]), .put 12 (.v false [.d (.int .i64) (l.length : Int)]), .put 13 (.v false [.d (.int .i64) (x : Int)])])
    (fun x => [.put 10 (.row 3 (.int .i64) (cF l.length (flP l x)))]) (fun x => x ≤ l.length) (fun x => l.length - x) 0 (Nat.zero_le _) ?_ ?_
  · (refine Wk.keep ?_ ?_ <;> repeat' (first | exact True.intro | refine And.intro rfl ?_ | refine And.intro (congrArg (fun z : Int => AV.v false [Lf.d (.int .i64) z]) (by first | omega | (simp only [Int.natCast_add, List.length_cons, List.length_append, List.length_nil]; omega))) ?_ | refine And.intro ?_ ?_))
    exact congrArg (fun z => some (Ob.row _ (.int .i64) z)) (cF_0 l.length)
  intro k hk
  by_cases hlt : k < l.length
  · have hg : l.getD ((k : Int)).toNat tCm.dflt = l[k] := getD_of _ hlt
    have hnx := flP_next hlt
    have hpr := hp.out k hlt
    have hpl := hb.out _ (List.getElem_mem hlt)
    have hfk := hfl.out k hk
    rw [← hg] at hnx hpr hpl
    clear hg
    generalize flP l k = F at *
    replace hnx := Lib.hid hnx
    replace hpr := Lib.hid hpr
    (repeat' (first | (with_reducible refine Cend.go ?_) | (with_reducible refine Step.mk True.intro ?_) | (with_reducible refine Step.mk ?_ ?_; focus (((try simp only [true_and, and_true, and_self, kmin, kmax, decide_eq_true_eq, decide_eq_false_iff_not, castD_self, castL_self, List.length_cons, List.length_nil, List.length_append, Int.natCast_add] at *) <;> omega))) | (with_reducible refine Step.mk ?_ ?_) | (with_reducible refine Way.t1 ?_) | (with_reducible refine Way.f1 ?_) | ((with_reducible refine Way.dec (fun _ => ?_) (fun _ => ?_)) <;> try (exfalso; omega)) | (with_reducible refine Way.nt ?_) | (with_reducible refine Way.mk (fun _ => ?_) (fun _ => ?_)) | (with_reducible refine Drawn.mk (by kernel_rfl) ?_) | (refine Run.mk ?_)))
    refine loop_by (X := Nat) (fun x => [.put 3 (.v false [.o 10]), .put 11 (.v false [.d (.slice tCm) l]), .put 12 (.v false [.d (.int .i64) (l.length : Int)]), .put 13 (.v false [.d (.int .i64) (k : Int)]),
        .put 18 (.v false [.d (.slice (.int .i64)) (l.getD ((k : Int)).toNat tCm.dflt).1]), .put 19 (.v false [.d (.int .i64) ((l.getD ((k : Int)).toNat tCm.dflt).1.length : Int)]), .put 20 (.v false [.d (.int .i64) (x : Int)])])
      (fun x => [.put 10 (.row 3 (.int .i64) (cF l.length (F ++ (l.getD ((k : Int)).toNat tCm.dflt).1.take x)))]) (fun x => x ≤ (l.getD ((k : Int)).toNat tCm.dflt).1.length) (fun x => (l.getD ((k : Int)).toNat tCm.dflt).1.length - x) 0 (Nat.zero_le _) ?_ ?_
    · (refine Wk.keep ?_ ?_ <;> repeat' (first | exact True.intro | refine And.intro rfl ?_ | refine And.intro (congrArg (fun z : Int => AV.v false [Lf.d (.int .i64) z]) (by first | omega | (simp only [Int.natCast_add, List.length_cons, List.length_append, List.length_nil]; omega))) ?_ | refine And.intro ?_ ?_))
      rw [List.take_zero, List.append_nil]; exact rfl
    generalize (l.getD ((k : Int)).toNat tCm.dflt).1 = ps at *
    intro q hq
    by_cases hlq : q < ps.length
    · have hg : ps.getD ((q : Int)).toNat (Ty.int .i64).dflt = ps[q] := getD_of _ hlq
      obtain ⟨m0, m1⟩ := hpr.out _ (List.getElem_mem hlq)
      have ht : ps.take (q + 1) = ps.take q ++ [ps[q]] := by rw [List.take_add_one, List.getElem?_eq_getElem hlq]; rfl
      rw [← hg] at m0 m1 ht
      clear hg
      have hst := cF_app (n := l.length) (F := F ++ ps.take q) m0 (by omega)
      rw [List.append_assoc, ← ht] at hst
      have hln := cF_len l.length (F ++ ps.take q)
      have hbd : 0 ≤ (cF l.length (F ++ ps.take q)).getD (Int.toNat (ps.getD ((q : Int)).toNat (Ty.int .i64).dflt)) (Ty.int .i64).dflt ∧ (cF l.length (F ++ ps.take q)).getD (Int.toNat (ps.getD ((q : Int)).toNat (Ty.int .i64).dflt)) (Ty.int .i64).dflt ≤ 1000 := by
        have e := cF_at (n := l.length) (F ++ ps.take q) (j := Int.toNat (ps.getD ((q : Int)).toNat (Ty.int .i64).dflt)) (by omega)
        have hc : (F ++ ps.take q).count (((Int.toNat (ps.getD ((q : Int)).toNat (Ty.int .i64).dflt)) : Nat) : Int) ≤ (F ++ ps.take q).length := List.count_le_length
        rw [List.length_append, List.length_take] at hc
        show 0 ≤ (cF l.length (F ++ ps.take q)).getD _ 0 ∧ (cF l.length (F ++ ps.take q)).getD _ 0 ≤ 1000
        rw [e]
        omega
      obtain ⟨hbd0, hbd1⟩ := hbd
      generalize cF l.length (F ++ ps.take q) = s at *
      clear ht
      replace hst := Lib.hid hst
      (repeat' (first | (with_reducible refine Cend.go ?_) | (with_reducible refine Step.mk True.intro ?_) | (with_reducible refine Step.mk ?_ ?_; focus (((try simp only [true_and, and_true, and_self, kmin, kmax, decide_eq_true_eq, decide_eq_false_iff_not, castD_self, castL_self, List.length_cons, List.length_nil, List.length_append, Int.natCast_add] at *) <;> omega))) | (with_reducible refine Step.mk ?_ ?_) | (with_reducible refine Way.t1 ?_) | (with_reducible refine Way.f1 ?_) | ((with_reducible refine Way.dec (fun _ => ?_) (fun _ => ?_)) <;> try (exfalso; omega)) | (with_reducible refine Way.nt ?_) | (with_reducible refine Way.mk (fun _ => ?_) (fun _ => ?_)) | (with_reducible refine Drawn.mk (by kernel_rfl) ?_) | (refine Run.mk ?_)))
      (refine Back.by (q + 1) ?_ ?_ ?_; focus (refine Wk.keep ?_ ?_ <;> repeat' (first | exact True.intro | refine And.intro rfl ?_ | refine And.intro (congrArg (fun z : Int => AV.v false [Lf.d (.int .i64) z]) (by first | omega | (simp only [Int.natCast_add, List.length_cons, List.length_append, List.length_nil]; omega))) ?_ | refine And.intro ?_ ?_)))
      · rw [← hst.out]; exact rfl
      · exact hlq
      · show ps.length - (q + 1) < ps.length - q; omega
    · have e : ps.take q = ps := List.take_of_length_le (by omega)
      rw [e, ← hnx.out]
      (repeat' (first | (with_reducible refine Cend.go ?_) | (with_reducible refine Step.mk True.intro ?_) | (with_reducible refine Step.mk ?_ ?_; focus (((try simp only [true_and, and_true, and_self, kmin, kmax, decide_eq_true_eq, decide_eq_false_iff_not, castD_self, castL_self, List.length_cons, List.length_nil, List.length_append, Int.natCast_add] at *) <;> omega))) | (with_reducible refine Step.mk ?_ ?_) | (with_reducible refine Way.t1 ?_) | (with_reducible refine Way.f1 ?_) | ((with_reducible refine Way.dec (fun _ => ?_) (fun _ => ?_)) <;> try (exfalso; omega)) | (with_reducible refine Way.nt ?_) | (with_reducible refine Way.mk (fun _ => ?_) (fun _ => ?_)) | (with_reducible refine Drawn.mk (by kernel_rfl) ?_) | (refine Run.mk ?_)))
      (refine Back.by (k + 1) ?_ ?_ ?_; focus (refine Wk.keep ?_ ?_ <;> repeat' (first | exact True.intro | refine And.intro rfl ?_ | refine And.intro (congrArg (fun z : Int => AV.v false [Lf.d (.int .i64) z]) (by first | omega | (simp only [Int.natCast_add, List.length_cons, List.length_append, List.length_nil]; omega))) ?_ | refine And.intro ?_ ?_)))
      · exact hlt
      · show l.length - (k + 1) < l.length - k; omega
  · have e : k = l.length := by omega
    subst e
    (repeat' (first | (with_reducible refine Cend.go ?_) | (with_reducible refine Step.mk True.intro ?_) | (with_reducible refine Step.mk ?_ ?_; focus (((try simp only [true_and, and_true, and_self, kmin, kmax, decide_eq_true_eq, decide_eq_false_iff_not, castD_self, castL_self, List.length_cons, List.length_nil, List.length_append, Int.natCast_add] at *) <;> omega))) | (with_reducible refine Step.mk ?_ ?_) | (with_reducible refine Way.t1 ?_) | (with_reducible refine Way.f1 ?_) | ((with_reducible refine Way.dec (fun _ => ?_) (fun _ => ?_)) <;> try (exfalso; omega)) | (with_reducible refine Way.nt ?_) | (with_reducible refine Way.mk (fun _ => ?_) (fun _ => ?_)) | (with_reducible refine Drawn.mk (by kernel_rfl) ?_) | (refine Run.mk ?_)))
    exact Ret.mk (.inl ⟨_, rfl, rfl⟩)

def sp_Order : SpecF := pureSp false [.slice tCm] (fun x => hC x.1 = 0) (fun x => .tu [(false, [.d (.slice (.int .i64)) (ordP x.1)]), (true, [.d (.int .i64) 0, .d (.int .i64) 0])])
set_option maxHeartbeats 1000000 in
theorem Order_sp : SpFact 44 sp_Order := by
  refine ⟨⟨Try.f44, rfl, rfl, rfl, pureSp_okF (env_fine (sp := [(25, sp_HVal), (64, sp_chil)]) (eq := [(24, true)]) ⟨HVal_sp, chil_sp, True.intro⟩ ⟨eq_fault, True.intro⟩) rfl (fun _ _ => rfl) ?_⟩, pureSp_loc _ _ _ _⟩
  rintro ⟨l, u⟩ - hC0
  change List Cm at l
  have hC0 : hC l = 0 := hC0
  have hl := hC_len hC0
  have hp := parOk_of hC0
  have hb := hC_par hC0
  have hf : (decide (hC l = 0) && decide (hI l = 0)) = true := by rw [hC0, hI_good l hC0]; rfl
  have hok := fun k (h : k ≤ l.length) => ordK_ok hp k h
  have h00 := lfT_0 l
  replace hf := Lib.hid hf
  replace hC0 := Lib.hid hC0
  replace hp := Lib.hid hp
  replace hb := Lib.hid hb
  replace hok := Lib.hid hok
  replace h00 := Lib.hid h00
  dsimp only
  (refine fnM_of rfl rfl rfl rfl ?_; dsimp only [params, argAV, Ty.leaves, Ty.isSt])
  (repeat' (first | (with_reducible refine Cend.go ?_) | (with_reducible refine Step.mk True.intro ?_) | (with_reducible refine Step.mk ?_ ?_; focus (((try simp only [true_and, and_true, and_self, kmin, kmax, decide_eq_true_eq, decide_eq_false_iff_not, castD_self, castL_self, List.length_cons, List.length_nil, List.length_append, Int.natCast_add] at *) <;> omega))) | (with_reducible refine Step.mk ?_ ?_) | (with_reducible refine Way.t1 ?_) | (with_reducible refine Way.f1 ?_) | ((with_reducible refine Way.dec (fun zz => ?_) (fun zz => ?_)) <;> (try simp only [castD_self, castL_self] at zz) <;> try (exfalso; first | omega | contradiction)) | (with_reducible refine Way.nt ?_) | ((with_reducible refine Way.mk (fun _ => ?_) (fun _ => ?_)) <;> try (exfalso; rename_i hw; first | exact Bool.noConfusion ((Go.RowKit.Hid.out hf).symm.trans hw) | exact Bool.noConfusion (hw.symm.trans (Go.RowKit.Hid.out hf)))) | (with_reducible refine Drawn.mk (by kernel_rfl) ?_) | (refine Run.mk ?_)))
  refine loop_by (X := Nat) (fun x => [.put 0 (.v false [.d (.slice tCm) l]), .put 3 (.v false [.p 3 0]), .put 5 (.v false [.o 19]), .put 6 (.v false [.o 91]), .put 21 (.v false [.d (.int .i64) (l.length : Int)]), .put 22 (.v false [.d (.int .i64) (x : Int)])])
    (fun x => [.put 3 (.box 24 [.d (.int .i64) 0, .d (.int .i64) 0]), .put 19 (.row 3 (.int .i64) (lfT l (ordK l x) [])), .put 91 (.row 3 (.int .i64) (ordK l x))]) (fun x => x ≤ l.length) (fun x => l.length - x) 0 (Nat.zero_le _) ?_ ?_
  · refine Wk.trans (Wk.nilrow 6 91 3 (.int .i64) rfl) ?_
    (refine Wk.keep ?_ ?_ <;> repeat' (first | exact True.intro | refine And.intro rfl ?_ | refine And.intro (congrArg (fun z : Int => AV.v false [Lf.d (.int .i64) z]) (by first | omega | (simp only [Int.natCast_add, List.length_cons, List.length_append, List.length_nil]; omega))) ?_ | refine And.intro ?_ ?_))
    exact congrArg (fun z => some (Ob.row _ (.int .i64) z)) h00.out
  clear h00
  intro k hk
  by_cases hlt : k < l.length
  · obtain ⟨b, hbl, hbe, hbz⟩ := ordK_best hp.out hlt (hok.out k hk)
    obtain ⟨hbo, -, hpo⟩ := (hok.out k hk).next hp.out hbl hbz
    have hnx : ordK l (k + 1) = ordK l k ++ [(b : Int)] := by rw [← hbe]; rfl
    have hset := lfT_out hbl hbo
    have hol := ordK_len l k
    have hsl := lfT_len l (ordK l k) []
    have hcs := bsK_cases l (lfT l (ordK l k) [])
    have hst : ∀ j, bsK l (lfT l (ordK l k) []) (j + 1) = if (lfT l (ordK l k) []).getD j 0 = 0 ∧ (bsK l (lfT l (ordK l k) []) j < 0 ∨ tmO l (bsK l (lfT l (ordK l k) []) j) ≤ tmO l (j : Int)) then (j : Int) else bsK l (lfT l (ordK l k) []) j := fun j => rfl
    rw [← hnx] at hset hpo
    have hbd := fun D j => lfG_bd hb.out (ordK l (k + 1)) D j
    have hat := fun D j (h : j < l.length) => lfT_at (l := l) (ordK l (k + 1)) D h
    have hdl := fun D => lfT_len l (ordK l (k + 1)) D
    have hdc := fun D (p : Int) h0 h1 h2 => lfT_dec (l := l) (o := ordK l (k + 1)) (D := D) (p := p) h0 h1 h2
    generalize ho1 : ordK l (k + 1) = o1 at *
    replace ho1 := Lib.hid ho1
    obtain ⟨S, hS⟩ : ∃ S, lfT l (ordK l k) [] = S := ⟨_, rfl⟩
    obtain ⟨o, ho⟩ : ∃ o, ordK l k = o := ⟨_, rfl⟩
    rw [hS] at hset hsl hcs hst hbe hbz ⊢
    rw [ho] at hnx hol ⊢
    clear hS ho hbo
    replace hset := Lib.hid hset
    replace hcs := Lib.hid hcs
    replace hst := Lib.hid hst
    replace hbe := Lib.hid hbe
    replace hbz := Lib.hid hbz
    replace hnx := Lib.hid hnx
    replace hpo := Lib.hid hpo
    replace hbd := Lib.hid hbd
    replace hat := Lib.hid hat
    replace hdl := Lib.hid hdl
    replace hdc := Lib.hid hdc
    (repeat' (first | (with_reducible refine Cend.go ?_) | (with_reducible refine Step.mk True.intro ?_) | (with_reducible refine Step.mk ?_ ?_; focus (((try simp only [true_and, and_true, and_self, kmin, kmax, decide_eq_true_eq, decide_eq_false_iff_not, castD_self, castL_self, List.length_cons, List.length_nil, List.length_append, Int.natCast_add] at *) <;> omega))) | (with_reducible refine Step.mk ?_ ?_) | (with_reducible refine Way.t1 ?_) | (with_reducible refine Way.f1 ?_) | ((with_reducible refine Way.dec (fun _ => ?_) (fun _ => ?_)) <;> try (exfalso; omega)) | (with_reducible refine Way.nt ?_) | (with_reducible refine Way.mk (fun _ => ?_) (fun _ => ?_)) | (with_reducible refine Drawn.mk (by kernel_rfl) ?_) | (refine Run.mk ?_)))
    refine loop_by (X := Nat) (fun x => [.put 0 (.v false [.d (.slice tCm) l]), .put 3 (.v false [.p 3 0]), .put 5 (.v false [.o 19]), .put 6 (.v false [.o 91]), .put 7 (.v false [.d (.int .i64) (bsK l S x)]), .put 21 (.v false [.d (.int .i64) (l.length : Int)]), .put 22 (.v false [.d (.int .i64) (k : Int)]),
        .put 24 (.v false [.o 19]), .put 25 (.v false [.d (.int .i64) (l.length : Int)]), .put 26 (.v false [.d (.int .i64) (x : Int)])])
      (fun x => [.put 3 (.box 24 [.d (.int .i64) 0, .d (.int .i64) 0]), .put 19 (.row 3 (.int .i64) S), .put 91 (.row 3 (.int .i64) o)]) (fun x => x ≤ l.length) (fun x => l.length - x) 0 (Nat.zero_le _) ?_ ?_
    · (refine Wk.keep ?_ ?_ <;> repeat' (first | exact True.intro | refine And.intro rfl ?_ | refine And.intro (congrArg (fun z : Int => AV.v false [Lf.d (.int .i64) z]) (by first | omega | (simp only [Int.natCast_add, List.length_cons, List.length_append, List.length_nil]; omega))) ?_ | refine And.intro ?_ ?_))
      all_goals skip
    intro q hq
    by_cases hlq : q < l.length
    · have hB := hcs.out q
      have hBs := hst.out q
      generalize bsK l S q = B at *
      have hB : B = -1 ∨ (0 ≤ B ∧ B < q) := hB.imp id fun h => ⟨h.1, h.2.1⟩
      replace hBs := Lib.hid hBs
      clear hst hcs hset hnx hpo hbd hat hdl hdc hbe hbz
      (repeat' (first | (with_reducible refine Cend.go ?_) | (with_reducible refine Step.mk True.intro ?_) | (with_reducible refine Step.mk ?_ ?_; focus (((try simp only [true_and, and_true, and_self, kmin, kmax, decide_eq_true_eq, decide_eq_false_iff_not, castD_self, castL_self, List.length_cons, List.length_nil, List.length_append, Int.natCast_add] at *) <;> omega))) | (with_reducible refine Step.mk ?_ ?_) | (with_reducible refine Way.t1 ?_) | (with_reducible refine Way.f1 ?_) | ((with_reducible refine Way.dec (fun _ => ?_) (fun _ => ?_)) <;> try (exfalso; omega)) | (with_reducible refine Way.nt ?_) | (with_reducible refine Way.mk (fun _ => ?_) (fun _ => ?_)) | (with_reducible refine Drawn.mk (by kernel_rfl) ?_) | (refine Run.mk ?_)))
      · rename_i hz h0
        have hz : S.getD q 0 = 0 := hz
        (refine Back.by (q + 1) ?_ ?_ ?_; focus (refine Wk.keep ?_ ?_ <;> repeat' (first | exact True.intro | refine And.intro rfl ?_ | refine And.intro (congrArg (fun z : Int => AV.v false [Lf.d (.int .i64) z]) (by first | omega | (simp only [Int.natCast_add, List.length_cons, List.length_append, List.length_nil]; omega))) ?_ | refine And.intro ?_ ?_)))
        · rw [hBs.out, if_pos ⟨hz, .inl h0⟩]; exact rfl
        · exact hlq
        · show l.length - (q + 1) < l.length - q; omega
      · rename_i hz h0 ht
        have hz : S.getD q 0 = 0 := hz
        have ht : tmO l B ≤ tmO l (q : Int) := ht
        (refine Back.by (q + 1) ?_ ?_ ?_; focus (refine Wk.keep ?_ ?_ <;> repeat' (first | exact True.intro | refine And.intro rfl ?_ | refine And.intro (congrArg (fun z : Int => AV.v false [Lf.d (.int .i64) z]) (by first | omega | (simp only [Int.natCast_add, List.length_cons, List.length_append, List.length_nil]; omega))) ?_ | refine And.intro ?_ ?_)))
        · rw [hBs.out, if_pos ⟨hz, .inr ht⟩]; exact rfl
        · exact hlq
        · show l.length - (q + 1) < l.length - q; omega
      · rename_i hz h0 ht
        have ht : ¬ tmO l B ≤ tmO l (q : Int) := ht
        (refine Back.by (q + 1) ?_ ?_ ?_; focus (refine Wk.keep ?_ ?_ <;> repeat' (first | exact True.intro | refine And.intro rfl ?_ | refine And.intro (congrArg (fun z : Int => AV.v false [Lf.d (.int .i64) z]) (by first | omega | (simp only [Int.natCast_add, List.length_cons, List.length_append, List.length_nil]; omega))) ?_ | refine And.intro ?_ ?_)))
        · rw [hBs.out, if_neg (fun z => z.2.elim h0 ht)]; exact rfl
        · exact hlq
        · show l.length - (q + 1) < l.length - q; omega
      · rename_i hz
        have hz : ¬ S.getD q 0 = 0 := hz
        (refine Back.by (q + 1) ?_ ?_ ?_; focus (refine Wk.keep ?_ ?_ <;> repeat' (first | exact True.intro | refine And.intro rfl ?_ | refine And.intro (congrArg (fun z : Int => AV.v false [Lf.d (.int .i64) z]) (by first | omega | (simp only [Int.natCast_add, List.length_cons, List.length_append, List.length_nil]; omega))) ?_ | refine And.intro ?_ ?_)))
        · rw [hBs.out, if_neg (fun z => hz z.1)]; exact rfl
        · exact hlq
        · show l.length - (q + 1) < l.length - q; omega
    · have e : q = l.length := by omega
      subst e
      rw [hbe.out]
      clear hst hcs hbe hbz
      have hgb : l.getD ((b : Int)).toNat tCm.dflt = l[b] := getD_of _ hbl
      have hpb : parO l b = (l.getD ((b : Int)).toNat tCm.dflt).1 := by rw [hgb, parO_of hbl]
      have hpo := hpo.out
      have hpr := hp.out b hbl
      have hpl := hb.out _ (List.getElem_mem hbl)
      rw [← hgb] at hpo hpr hpl
      have hset := hset.out
      rw [hpb] at hset
      clear hgb hpb
      replace hset := Lib.hid hset
      replace hpo := Lib.hid hpo
      replace hpr := Lib.hid hpr
      (repeat' (first | (with_reducible refine Cend.go ?_) | (with_reducible refine Step.mk True.intro ?_) | (with_reducible refine Step.mk ?_ ?_; focus (((try simp only [true_and, and_true, and_self, kmin, kmax, decide_eq_true_eq, decide_eq_false_iff_not, castD_self, castL_self, List.length_cons, List.length_nil, List.length_append, Int.natCast_add] at *) <;> omega))) | (with_reducible refine Step.mk ?_ ?_) | (with_reducible refine Way.t1 ?_) | (with_reducible refine Way.f1 ?_) | ((with_reducible refine Way.dec (fun _ => ?_) (fun _ => ?_)) <;> try (exfalso; omega)) | (with_reducible refine Way.nt ?_) | (with_reducible refine Way.mk (fun _ => ?_) (fun _ => ?_)) | (with_reducible refine Drawn.mk (by kernel_rfl) ?_) | (refine Run.mk ?_)))
      generalize (l.getD ((b : Int)).toNat tCm.dflt).1 = ps at *
      refine loop_by (X := Nat) (fun x => [.put 0 (.v false [.d (.slice tCm) l]), .put 3 (.v false [.p 3 0]), .put 5 (.v false [.o 19]), .put 6 (.v false [.o 91]), .put 7 (.v false [.d (.int .i64) (b : Int)]), .put 21 (.v false [.d (.int .i64) (l.length : Int)]), .put 22 (.v false [.d (.int .i64) (k : Int)]),
          .put 59 (.v false [.d (.slice (.int .i64)) ps]), .put 60 (.v false [.d (.int .i64) (ps.length : Int)]), .put 61 (.v false [.d (.int .i64) (x : Int)])])
        (fun x => [.put 3 (.box 24 [.d (.int .i64) 0, .d (.int .i64) 0]), .put 19 (.row 3 (.int .i64) (lfT l o1 (ps.drop x))), .put 91 (.row 3 (.int .i64) o)]) (fun x => x ≤ ps.length) (fun x => ps.length - x) 0 (Nat.zero_le _) ?_ ?_
      · (refine Wk.keep ?_ ?_ <;> repeat' (first | exact True.intro | refine And.intro rfl ?_ | refine And.intro (congrArg (fun z : Int => AV.v false [Lf.d (.int .i64) z]) (by first | omega | (simp only [Int.natCast_add, List.length_cons, List.length_append, List.length_nil]; omega))) ?_ | refine And.intro ?_ ?_))
        rw [List.drop_zero, ← hset.out]; exact rfl
      intro q hq
      by_cases hlq : q < ps.length
      · have hg : ps.getD ((q : Int)).toNat (Ty.int .i64).dflt = ps[q] := getD_of _ hlq
        obtain ⟨m0, m1⟩ := hpr.out _ (List.getElem_mem hlq)
        have hpq := hpo.out _ (List.getElem_mem hlq)
        have hdr : ps.drop q = ps[q] :: ps.drop (q + 1) := List.drop_eq_getElem_cons hlq
        have hst := hdc.out (ps.drop (q + 1)) ps[q] m0 (by omega) hpq
        rw [← hdr] at hst
        have hln := hdl.out (ps.drop q)
        have hbq := hbd.out (ps.drop q) ps[q].toNat
        rw [← hat.out (ps.drop q) ps[q].toNat (by omega), List.length_drop] at hbq
        rw [← hg] at m0 m1 hst hbq
        clear hg hdr hpq
        generalize lfT l o1 (ps.drop q) = s at *
        obtain ⟨hb0, hb1⟩ := hbq
        have hb0 : -1 ≤ s.getD (Int.toNat (ps.getD ((q : Int)).toNat (Ty.int .i64).dflt)) (Ty.int .i64).dflt := hb0
        have hb1 : s.getD (Int.toNat (ps.getD ((q : Int)).toNat (Ty.int .i64).dflt)) (Ty.int .i64).dflt ≤ 1000 := by
          show s.getD (Int.toNat (ps.getD ((q : Int)).toNat (Ty.int .i64).dflt)) 0 ≤ 1000
          omega
        replace hst := Lib.hid hst
        (repeat' (first | (with_reducible refine Cend.go ?_) | (with_reducible refine Step.mk True.intro ?_) | (with_reducible refine Step.mk ?_ ?_; focus (((try simp only [true_and, and_true, and_self, kmin, kmax, decide_eq_true_eq, decide_eq_false_iff_not, castD_self, castL_self, List.length_cons, List.length_nil, List.length_append, Int.natCast_add] at *) <;> omega))) | (with_reducible refine Step.mk ?_ ?_) | (with_reducible refine Way.t1 ?_) | (with_reducible refine Way.f1 ?_) | ((with_reducible refine Way.dec (fun _ => ?_) (fun _ => ?_)) <;> try (exfalso; omega)) | (with_reducible refine Way.nt ?_) | (with_reducible refine Way.mk (fun _ => ?_) (fun _ => ?_)) | (with_reducible refine Drawn.mk (by kernel_rfl) ?_) | (refine Run.mk ?_)))
        (refine Back.by (q + 1) ?_ ?_ ?_; focus (refine Wk.keep ?_ ?_ <;> repeat' (first | exact True.intro | refine And.intro rfl ?_ | refine And.intro (congrArg (fun z : Int => AV.v false [Lf.d (.int .i64) z]) (by first | omega | (simp only [Int.natCast_add, List.length_cons, List.length_append, List.length_nil]; omega))) ?_ | refine And.intro ?_ ?_)))
        · rw [← hst.out]; exact rfl
        · exact hlq
        · show ps.length - (q + 1) < ps.length - q; omega
      · have e : ps.drop q = [] := List.drop_eq_nil_of_le (by omega)
        rw [e]
        (repeat' (first | (with_reducible refine Cend.go ?_) | (with_reducible refine Step.mk True.intro ?_) | (with_reducible refine Step.mk ?_ ?_; focus (((try simp only [true_and, and_true, and_self, kmin, kmax, decide_eq_true_eq, decide_eq_false_iff_not, castD_self, castL_self, List.length_cons, List.length_nil, List.length_append, Int.natCast_add] at *) <;> omega))) | (with_reducible refine Step.mk ?_ ?_) | (with_reducible refine Way.t1 ?_) | (with_reducible refine Way.f1 ?_) | ((with_reducible refine Way.dec (fun _ => ?_) (fun _ => ?_)) <;> try (exfalso; omega)) | (with_reducible refine Way.nt ?_) | (with_reducible refine Way.mk (fun _ => ?_) (fun _ => ?_)) | (with_reducible refine Drawn.mk (by kernel_rfl) ?_) | (refine Run.mk ?_)))
        (refine Back.by (k + 1) ?_ ?_ ?_; focus (refine Wk.ren [(91, 75)] rfl ?_ ?_ <;> repeat' (first | exact True.intro | refine And.intro rfl ?_ | refine And.intro (congrArg (fun z : Int => AV.v false [Lf.d (.int .i64) z]) (by first | omega | (simp only [Int.natCast_add, List.length_cons, List.length_append, List.length_nil]; omega))) ?_ | refine And.intro ?_ ?_)))
        · rw [ho1.out]; exact rfl
        · rw [ho1.out, hnx.out]; exact rfl
        · exact hlt
        · show l.length - (k + 1) < l.length - k; omega
  · have e : k = l.length := by omega
    subst e
    (repeat' (first | (with_reducible refine Cend.go ?_) | (with_reducible refine Step.mk True.intro ?_) | (with_reducible refine Step.mk ?_ ?_; focus (((try simp only [true_and, and_true, and_self, kmin, kmax, decide_eq_true_eq, decide_eq_false_iff_not, castD_self, castL_self, List.length_cons, List.length_nil, List.length_append, Int.natCast_add] at *) <;> omega))) | (with_reducible refine Step.mk ?_ ?_) | (with_reducible refine Way.t1 ?_) | (with_reducible refine Way.f1 ?_) | ((with_reducible refine Way.dec (fun _ => ?_) (fun _ => ?_)) <;> try (exfalso; omega)) | (with_reducible refine Way.nt ?_) | (with_reducible refine Way.mk (fun _ => ?_) (fun _ => ?_)) | (with_reducible refine Drawn.mk (by kernel_rfl) ?_) | (refine Run.mk ?_)))
    exact Ret.mk ⟨⟨rfl, .frz rfl, True.intro⟩, ⟨rfl, .same, .same, True.intro⟩, True.intro⟩
end Go.Proofs.Ytgdlbpihkodeoaa
