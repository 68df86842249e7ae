/- The walk of history.Digests. -/
import Derived.Test.YtgdlbpihkodeoaaWxHist
import Derived.Test.YtgdlbpihkodeoaaDigPr
namespace Go.Proofs.Ytgdlbpihkodeoaa
open Go.RowKit
set_option maxRecDepth 10000
set_option linter.unusedSimpArgs false

/-- the digest of a commit's message -/
def mdg (c : Cm) : Int := ofV (c.2.2.2.2.data.toList.map fun b => (b.toNat : Int))
theorem mdg_bd (c : Cm) : 0 ≤ mdg c ∧ mdg c < 2305843009213693951 := ofV_bd _
def dgV (l : List Cm) : List Int := if hC l = 0 then dgs mdg l [] else []
def base3 (c : Cm) : List Int := [c.2.1, c.2.2.1, c.2.2.2.1]
def sp_Dgs : SpecF := pureSp false [.slice tCm] (fun _ => True) (fun (l', _) => .tu [(false, [.d (.slice (.int .i64)) (dgV l')]), (true, [.d (.int .i64) (hC l'), .d (.int .i64) (hI l')])])
theorem Dgs_sp : SpFact 8 sp_Dgs := by
  refine ⟨⟨Try.f8, rfl, rfl, rfl, pureSp_okF (env_fine (sp := [(25, sp_HVal), (26, sp_Of), (27, sp_DPair)]) (eq := [(24, true)]) ⟨HVal_sp, Of_sp, DPair_sp, True.intro⟩ ⟨eq_fault, True.intro⟩) rfl (fun ⟨_, _⟩ _ => rfl) ?_⟩, pureSp_loc _ _ _ _⟩
  rintro ⟨l, u⟩ - -
  change List Cm at l
  by_cases hv0 : hC l = 0
  · have hv : (decide (hC l = 0) && decide (hI l = 0)) = true := by rw [hv0, hI_good l hv0]; rfl
    obtain ⟨hlen, hall⟩ := hC_all.1 hv0
    have hok : ∀ k (h : k < l.length), l[k].1.length ≤ 3 ∧ (∀ p ∈ l[k].1, 0 ≤ p ∧ p < k) ∧ (0 ≤ l[k].2.1 ∧ l[k].2.1 ≤ 7 ∧ 0 ≤ l[k].2.2.1 ∧ l[k].2.2.1 ≤ 100000 ∧ 0 ≤ l[k].2.2.2.1 ∧ l[k].2.2.2.1 < 2305843009213693951) ∧ l[k].2.2.2.2.size ≤ 80 := fun k h => by
      obtain ⟨a1, a2, a3, a4, a5, a6, a7, a8, a9⟩ := cmC_good (hall k h)
      exact ⟨a1, a2, ⟨a3, a4, a5, a6, a7, a8⟩, a9⟩
    have hsn : ∀ k (hk : k < l.length), dgs mdg (l.take (k + 1)) [] = dgs mdg (l.take k) [] ++ [cdg mdg (dgs mdg (l.take k) []) l[k]] := fun k hk => dgs_snoc mdg hk
    have hln : ∀ k, k ≤ l.length → (dgs mdg (l.take k) []).length = k := fun k h => by rw [dgs_length, List.length_take]; simp; omega
    have hdg : ∀ k, DigL (dgs mdg (l.take k) []) := fun k => dgs_dig mdg_bd _ _ (fun x hx => by cases hx)
    have hmb := mdg_bd
    clear hall
    replace hok := Lib.hid hok
    replace hsn := Lib.hid hsn
    replace hln := Lib.hid hln
    replace hdg := Lib.hid hdg
    replace hmb := Lib.hid hmb
    replace hv := Lib.hid hv
    (refine fnM_of rfl rfl rfl rfl ?_; dsimp only [params, argAV, Ty.leaves, Ty.isSt])
    (repeat' (first | (with_reducible refine Step.mk True.intro ?_) | (with_reducible refine Step.mk ?_ ?_; focus (((try simp only [true_and, and_true, and_self, kmin, kmax, decide_eq_true_eq, decide_eq_false_iff_not, castD_self, castL_self, List.length_cons, List.length_nil, List.length_append, Int.natCast_add] at *) <;> omega))) | (with_reducible refine Step.mk ?_ ?_) | (with_reducible refine Way.t1 ?_) | (with_reducible refine Way.f1 ?_) | ((with_reducible refine Way.dec (fun _ => ?_) (fun _ => ?_)) <;> try (exfalso; omega)) | (with_reducible refine Way.nt ?_) | ((with_reducible refine Way.mk (fun _ => ?_) (fun _ => ?_)) <;> try (exfalso; rename_i hw; first | exact Bool.noConfusion ((Go.RowKit.Hid.out hv).symm.trans hw) | exact Bool.noConfusion (hw.symm.trans (Go.RowKit.Hid.out hv)))) | (with_reducible refine Drawn.mk (by kernel_rfl) ?_) | (refine Run.mk ?_)))
    refine loop_by (X := Nat) (fun x => [.put 3 (.v false [.p 3 0]), .put 5 (.v false [.o 91]), .put 21 (.v false [.d (.slice tCm) l]), .put 22 (.v false [.d (.int .i64) (l.length : Int)]), .put 23 (.v false [.d (.int .i64) (x : Int)])])
      (fun x => [.put 3 (.box 24 [.d (.int .i64) 0, .d (.int .i64) 0]), .put 91 (.row 3 (.int .i64) (dgs mdg (l.take x) []))]) (fun x => x ≤ l.length) (fun x => l.length - x) 0 (Nat.zero_le _) ?_ ?_
    · refine (Wk.nilrow 5 91 3 (.int .i64) rfl).trans ?_
      (refine Wk.keep ?_ ?_ <;> repeat' (first | exact True.intro | refine And.intro rfl ?_ | refine And.intro (congrArg (fun z : Int => AV.v false [Lf.d (.int .i64) z]) (by first | omega | (simp only [Int.natCast_add, List.length_cons, List.length_append, List.length_nil]; omega))) ?_ | refine And.intro ?_ ?_))
    intro k hk
    (try dsimp only)
    by_cases hlt : k < l.length
    · have hg : l.getD ((k : Int)).toNat tCm.dflt = l[k] := getD_of _ hlt
      obtain ⟨ok1, ok2, ok3, ok4⟩ := hok.out k hlt
      have hs := hsn.out k hlt
      have hl := hln.out k hk
      have hd := hdg.out k
      rw [← hg] at ok1 ok2 ok3 ok4 hs
      obtain ⟨c, hc⟩ : ∃ c, l.getD ((k : Int)).toNat tCm.dflt = c := ⟨_, rfl⟩
      obtain ⟨out, ho⟩ : ∃ out, dgs mdg (l.take k) [] = out := ⟨_, rfl⟩
      rw [hc] at ok1 ok2 ok3 ok4 hs hg
      rw [ho] at hs hl hd
      have hcb := hmb.out c
      replace hg := Lib.hid hg
      replace ok2 := Lib.hid ok2
      replace ok3 := Lib.hid ok3
      replace hs := Lib.hid hs
      replace hd := Lib.hid hd
      replace hcb := Lib.hid hcb
      rw [ho]
      (repeat' (first | (with_reducible refine Step.mk True.intro ?_) | (with_reducible refine Step.mk ?_ ?_; focus (((try simp only [true_and, and_true, and_self, kmin, kmax, decide_eq_true_eq, decide_eq_false_iff_not, castD_self, castL_self, List.length_cons, List.length_nil, List.length_append, Int.natCast_add] at *) <;> omega))) | (with_reducible refine Step.mk ?_ ?_) | (with_reducible refine Way.t1 ?_) | (with_reducible refine Way.f1 ?_) | ((with_reducible refine Way.dec (fun _ => ?_) (fun _ => ?_)) <;> try (exfalso; omega)) | (with_reducible refine Way.nt ?_) | (with_reducible refine Way.mk (fun _ => ?_) (fun _ => ?_)) | (with_reducible refine Drawn.mk (by kernel_rfl) ?_) | (refine Run.mk ?_)))
      · rw [hc]; show ((List.length c.1 : Nat) : Int) ≤ _; omega
      rw [hc]
      have hb3 : ∀ x ∈ base3 c, 0 ≤ x ∧ x < 2305843009213693951 := by
        have := ok3.out
        intro x hx
        simp only [base3, List.mem_cons, List.not_mem_nil, or_false] at hx
        rcases hx with rfl | rfl | rfl <;> omega
      replace hb3 := Lib.hid hb3
      have hpv : ∀ q (h : q < c.1.length), (paV out c).take (q + 1) = (paV out c).take q ++ [out.getD (c.1.getD ((q : Int)).toNat (Ty.int .i64).dflt).toNat (Ty.int .i64).dflt] ∧ 0 ≤ c.1.getD ((q : Int)).toNat (Ty.int .i64).dflt ∧ c.1.getD ((q : Int)).toNat (Ty.int .i64).dflt < k := fun q h => by
        have e : c.1.getD ((q : Int)).toNat (Ty.int .i64).dflt = c.1[q] := getD_of _ h
        have hq : q < (paV out c).length := by unfold paV; rw [List.length_map]; exact h
        refine ⟨?_, ?_⟩
        · rw [e, List.take_add_one, List.getElem?_eq_getElem hq, Option.toList_some]
          exact congrArg (fun z => (paV out c).take q ++ [z]) (List.getElem_map _)
        · rw [e]; exact ok2.out _ (List.getElem_mem h)
      replace hpv := Lib.hid hpv
      refine loop_by (X := Nat) (fun q => [.put 3 (.v false [.p 3 0]), .put 5 (.v false [.o 91]), .put 8 (.v false [.d (.int .i64) (mdg c)]), .put 10 (.v false [.o 92]), .put 21 (.v false [.d (.slice tCm) l]), .put 22 (.v false [.d (.int .i64) (l.length : Int)]), .put 23 (.v false [.d (.int .i64) (k : Int)]), .put 42 (.v false [.d (.slice (.int .i64)) c.1]), .put 43 (.v false [.d (.int .i64) (c.1.length : Int)]), .put 44 (.v false [.d (.int .i64) (q : Int)])])
        (fun q => [.put 3 (.box 24 [.d (.int .i64) 0, .d (.int .i64) 0]), .put 91 (.row 3 (.int .i64) out), .put 92 (.row 3 (.int .i64) (base3 c ++ (paV out c).take q))]) (fun q => q ≤ c.1.length) (fun q => c.1.length - q) 0 (Nat.zero_le _) ?_ ?_
      · refine (Wk.arow (t := .int .i64) (l := base3 c) 40 3 rfl rfl).trans ?_
        (refine Wk.ren [(92, 40)] rfl ?_ ?_ <;> repeat' (first | exact True.intro | refine And.intro rfl ?_ | refine And.intro (congrArg (fun z : Int => AV.v false [Lf.d (.int .i64) z]) (by first | omega | (simp only [Int.natCast_add, List.length_cons, List.length_append, List.length_nil]; omega))) ?_ | refine And.intro ?_ ?_))
      intro q hq
      (try dsimp only)
      by_cases hlq : q < c.1.length
      · obtain ⟨p1, p2, p3⟩ := hpv.out q hlq
        have plen : (base3 c ++ (paV out c).take q).length ≤ 6 := by
          simp only [List.length_append, base3, List.length_cons, List.length_nil, List.length_take]; omega
        replace p1 := Lib.hid p1
        (repeat' (first | (with_reducible refine Step.mk True.intro ?_) | (with_reducible refine Step.mk ?_ ?_; focus (((try simp only [true_and, and_true, and_self, kmin, kmax, decide_eq_true_eq, decide_eq_false_iff_not, castD_self, castL_self, List.length_cons, List.length_nil, List.length_append, Int.natCast_add] at *) <;> omega))) | (with_reducible refine Step.mk ?_ ?_) | (with_reducible refine Way.t1 ?_) | (with_reducible refine Way.f1 ?_) | ((with_reducible refine Way.dec (fun _ => ?_) (fun _ => ?_)) <;> try (exfalso; omega)) | (with_reducible refine Way.nt ?_) | (with_reducible refine Way.mk (fun _ => ?_) (fun _ => ?_)) | (with_reducible refine Drawn.mk (by kernel_rfl) ?_) | (refine Run.mk ?_)))
        have e4 : base3 c ++ (paV out c).take (q + 1) = base3 c ++ (paV out c).take q ++ [out.getD (c.1.getD ((q : Int)).toNat (Ty.int .i64).dflt).toNat (Ty.int .i64).dflt] := by rw [p1.out, List.append_assoc]
        refine Back.by (q + 1) ?_ ?_ ?_
        · rw [e4]
          (refine Wk.ren [(92, 54)] rfl ?_ ?_ <;> repeat' (first | exact True.intro | refine And.intro rfl ?_ | refine And.intro (congrArg (fun z : Int => AV.v false [Lf.d (.int .i64) z]) (by first | omega | (simp only [Int.natCast_add, List.length_cons, List.length_append, List.length_nil]; omega))) ?_ | refine And.intro ?_ ?_))
        · exact hlq
        · show c.1.length - (q + 1) < c.1.length - q; omega
      · have e : (paV out c).take q = paV out c := List.take_of_length_le (by unfold paV; rw [List.length_map]; omega)
        rw [e]
        clear e
        obtain ⟨L, hL⟩ : ∃ L, base3 c ++ paV out c = L := ⟨_, rfl⟩
        have hLl : L.length ≤ 6 := by rw [← hL]; simp only [List.length_append, base3, List.length_cons, List.length_nil, paV, List.length_map]; omega
        have hLd : ∀ r (h : r < L.length), 0 ≤ L.getD ((r : Int)).toNat (Ty.int .i64).dflt ∧ L.getD ((r : Int)).toNat (Ty.int .i64).dflt < 2305843009213693951 := fun r h => by
          rw [getD_of _ h]
          have hm := List.getElem_mem h
          generalize L[r] = x at hm
          rw [← hL] at hm
          rcases List.mem_append.1 hm with hm | hm
          · exact hb3.out x hm
          · unfold paV at hm
            obtain ⟨p, hp1, rfl⟩ := List.mem_map.1 hm
            have := ok2.out p hp1
            rw [List.getD_eq_getElem?_getD, List.getElem?_eq_getElem (by omega)]
            exact hd.out _ (List.getElem_mem _)
        have hcd : cdg mdg out c = foldP (mdg c) L := by rw [← hL]; rfl
        have hfb := fun r => foldP_bd hcb.out (L.take r)
        have hfs : ∀ r (h : r < L.length), foldP (mdg c) (L.take (r + 1)) = pr (foldP (mdg c) (L.take r)) (L.getD ((r : Int)).toNat (Ty.int .i64).dflt) := fun r h => by
          rw [getD_of _ h, List.take_add_one, List.getElem?_eq_getElem h, Option.toList_some, foldP_snoc]
        rw [hL]
        replace hL := Lib.hid hL
        replace hLd := Lib.hid hLd
        replace hcd := Lib.hid hcd
        replace hfb := Lib.hid hfb
        replace hfs := Lib.hid hfs
        (repeat' (first | (with_reducible refine Step.mk True.intro ?_) | (with_reducible refine Step.mk ?_ ?_; focus (((try simp only [true_and, and_true, and_self, kmin, kmax, decide_eq_true_eq, decide_eq_false_iff_not, castD_self, castL_self, List.length_cons, List.length_nil, List.length_append, Int.natCast_add] at *) <;> omega))) | (with_reducible refine Step.mk ?_ ?_) | (with_reducible refine Way.t1 ?_) | (with_reducible refine Way.f1 ?_) | ((with_reducible refine Way.dec (fun _ => ?_) (fun _ => ?_)) <;> try (exfalso; omega)) | (with_reducible refine Way.nt ?_) | (with_reducible refine Way.mk (fun _ => ?_) (fun _ => ?_)) | (with_reducible refine Drawn.mk (by kernel_rfl) ?_) | (refine Run.mk ?_)))
        refine loop_by (X := Nat) (fun r => [.put 3 (.v false [.p 3 0]), .put 5 (.v false [.o 91]), .put 8 (.v false [.d (.int .i64) (foldP (mdg c) (L.take r))]), .put 21 (.v false [.d (.slice tCm) l]), .put 22 (.v false [.d (.int .i64) (l.length : Int)]), .put 23 (.v false [.d (.int .i64) (k : Int)]), .put 56 (.v false [.o 92]), .put 57 (.v false [.d (.int .i64) (L.length : Int)]), .put 58 (.v false [.d (.int .i64) (r : Int)])])
          (fun r => [.put 3 (.box 24 [.d (.int .i64) 0, .d (.int .i64) 0]), .put 91 (.row 3 (.int .i64) out), .put 92 (.row 3 (.int .i64) L)]) (fun r => r ≤ L.length) (fun r => L.length - r) 0 (Nat.zero_le _) ?_ ?_
        · (refine Wk.keep ?_ ?_ <;> repeat' (first | exact True.intro | refine And.intro rfl ?_ | refine And.intro (congrArg (fun z : Int => AV.v false [Lf.d (.int .i64) z]) (by first | omega | (simp only [Int.natCast_add, List.length_cons, List.length_append, List.length_nil]; omega))) ?_ | refine And.intro ?_ ?_))
        intro r hr
        (try dsimp only)
        by_cases hlr : r < L.length
        · have f1 := hfs.out r hlr
          have f2 := hfb.out r
          have f3 := hLd.out r hlr
          replace f1 := Lib.hid f1
          replace f2 := Lib.hid f2
          replace f3 := Lib.hid f3
          (repeat' (first | (with_reducible refine Step.mk True.intro ?_) | (with_reducible refine Step.mk ?_ ?_; focus (((try simp only [true_and, and_true, and_self, kmin, kmax, decide_eq_true_eq, decide_eq_false_iff_not, castD_self, castL_self, List.length_cons, List.length_nil, List.length_append, Int.natCast_add] at *) <;> omega))) | (with_reducible refine Step.mk ?_ ?_) | (with_reducible refine Way.t1 ?_) | (with_reducible refine Way.f1 ?_) | ((with_reducible refine Way.dec (fun _ => ?_) (fun _ => ?_)) <;> try (exfalso; omega)) | (with_reducible refine Way.nt ?_) | (with_reducible refine Way.mk (fun _ => ?_) (fun _ => ?_)) | (with_reducible refine Drawn.mk (by kernel_rfl) ?_) | (refine Run.mk ?_)))
          · exact ⟨f2.out, f3.out⟩
          · refine Back.by (r + 1) ?_ ?_ ?_
            · rw [f1.out]
              (refine Wk.keep ?_ ?_ <;> repeat' (first | exact True.intro | refine And.intro rfl ?_ | refine And.intro (congrArg (fun z : Int => AV.v false [Lf.d (.int .i64) z]) (by first | omega | (simp only [Int.natCast_add, List.length_cons, List.length_append, List.length_nil]; omega))) ?_ | refine And.intro ?_ ?_))
            · exact hlr
            · show L.length - (r + 1) < L.length - r; omega
        · have e : L.take r = L := List.take_of_length_le (by omega)
          rw [e, ← hcd.out]
          clear e
          (repeat' (first | (with_reducible refine Step.mk True.intro ?_) | (with_reducible refine Step.mk ?_ ?_; focus (((try simp only [true_and, and_true, and_self, kmin, kmax, decide_eq_true_eq, decide_eq_false_iff_not, castD_self, castL_self, List.length_cons, List.length_nil, List.length_append, Int.natCast_add] at *) <;> omega))) | (with_reducible refine Step.mk ?_ ?_) | (with_reducible refine Way.t1 ?_) | (with_reducible refine Way.f1 ?_) | ((with_reducible refine Way.dec (fun _ => ?_) (fun _ => ?_)) <;> try (exfalso; omega)) | (with_reducible refine Way.nt ?_) | (with_reducible refine Way.mk (fun _ => ?_) (fun _ => ?_)) | (with_reducible refine Drawn.mk (by kernel_rfl) ?_) | (refine Run.mk ?_)))
          have e5 : dgs mdg (l.take (k + 1)) [] = out ++ [cdg mdg out c] := hs.out
          refine Back.by (k + 1) ?_ ?_ ?_
          · rw [e5]
            (refine Wk.ren [(91, 72)] rfl ?_ ?_ <;> repeat' (first | exact True.intro | refine And.intro rfl ?_ | refine And.intro (congrArg (fun z : Int => AV.v false [Lf.d (.int .i64) z]) (by first | omega | (simp only [Int.natCast_add, List.length_cons, List.length_append, List.length_nil]; omega))) ?_ | refine And.intro ?_ ?_))
          · exact hlt
          · show l.length - (k + 1) < l.length - k; omega
    · have e : l.take k = l := List.take_of_length_le (by omega)
      rw [e]
      clear e
      (repeat' (first | (with_reducible refine Step.mk True.intro ?_) | (with_reducible refine Step.mk ?_ ?_; focus (((try simp only [true_and, and_true, and_self, kmin, kmax, decide_eq_true_eq, decide_eq_false_iff_not, castD_self, castL_self, List.length_cons, List.length_nil, List.length_append, Int.natCast_add] at *) <;> omega))) | (with_reducible refine Step.mk ?_ ?_) | (with_reducible refine Way.t1 ?_) | (with_reducible refine Way.f1 ?_) | ((with_reducible refine Way.dec (fun _ => ?_) (fun _ => ?_)) <;> try (exfalso; omega)) | (with_reducible refine Way.nt ?_) | (with_reducible refine Way.mk (fun _ => ?_) (fun _ => ?_)) | (with_reducible refine Drawn.mk (by kernel_rfl) ?_) | (refine Run.mk ?_)))
      refine Ret.mk ?_
      rw [show dgV l = dgs mdg l [] from if_pos hv0, hv0, hI_good l hv0]
      exact ⟨⟨rfl, .frz rfl, True.intro⟩, ⟨rfl, .same, .same, True.intro⟩, True.intro⟩
  · have hv : (decide (hC l = 0) && decide (hI l = 0)) = false := by rw [decide_eq_false hv0]; rfl
    replace hv := Lib.hid hv
    (refine fnM_of rfl rfl rfl rfl ?_; dsimp only [params, argAV, Ty.leaves, Ty.isSt])
    (repeat' (first | (with_reducible refine Step.mk True.intro ?_) | (with_reducible refine Step.mk ?_ ?_; focus (((try simp only [true_and, and_true, and_self, kmin, kmax, decide_eq_true_eq, decide_eq_false_iff_not, castD_self, castL_self, List.length_cons, List.length_nil, List.length_append, Int.natCast_add] at *) <;> omega))) | (with_reducible refine Step.mk ?_ ?_) | (with_reducible refine Way.t1 ?_) | (with_reducible refine Way.f1 ?_) | ((with_reducible refine Way.dec (fun _ => ?_) (fun _ => ?_)) <;> try (exfalso; omega)) | (with_reducible refine Way.nt ?_) | ((with_reducible refine Way.mk (fun _ => ?_) (fun _ => ?_)) <;> try (exfalso; rename_i hw; first | exact Bool.noConfusion ((Go.RowKit.Hid.out hv).symm.trans hw) | exact Bool.noConfusion (hw.symm.trans (Go.RowKit.Hid.out hv)))) | (with_reducible refine Drawn.mk (by kernel_rfl) ?_) | (refine Run.mk ?_)))
    refine Ret.mk ?_
    rw [show dgV l = [] from if_neg hv0]
    exact ⟨⟨rfl, .frz rfl, True.intro⟩, ⟨rfl, .same, .same, True.intro⟩, True.intro⟩
end Go.Proofs.Ytgdlbpihkodeoaa
