/- negotiate.Run. -/
import Derived.Test.YtgdlbpihkodeoaaWxNgF
import Derived.Test.YtgdlbpihkodeoaaWxOrd
namespace Go.Proofs.Ytgdlbpihkodeoaa
open Go.RowKit
set_option maxRecDepth 100000
set_option linter.unusedSimpArgs false

theorem runN_stop {l : List Cm} {s r : List Bool} {o : List Int} {x : Ng} (h : rdN r o x = []) : ∀ f, runN l s r o f x = x
  | 0 => rfl
  | f + 1 => by unfold runN; rw [if_pos h]
theorem runN_next {l : List Cm} {s r : List Bool} {o : List Int} {x : Ng} (h : rdN r o x ≠ []) (f : Nat) : runN l s r o (f + 1) x = runN l s r o f (nxN l s r o x) := by
  conv => lhs; unfold runN
  rw [if_neg h]
/-- where the rounds stand: how much is left to do, and where they lead -/
structure RnI (l : List Cm) (s r : List Bool) (x : Ng) : Prop where
  j : NgJ l s r x
  f : ∃ f, muT x.2.2.1 ≤ f ∧ runN l s r (ordP l) f x = endN l s r
theorem RnI.init (l : List Cm) (s r : List Bool) : RnI l s r (1, List.replicate l.length false, List.replicate l.length false, []) :=
  ⟨NgJ.init l s r, l.length, by show muT (List.replicate l.length false) ≤ _; rw [muT_rep]; exact Nat.le_refl _, rfl⟩
theorem RnI.stop {l : List Cm} {s r : List Bool} {x : Ng} (h : RnI l s r x) (hz : rdN r (ordP l) x = []) : endN l s r = x := by
  obtain ⟨f, -, e⟩ := h.f
  rw [← e, runN_stop hz]
theorem RnI.next {l : List Cm} (hl : ParOk l) {s r : List Bool} (hcr : ClosedP l r) {x : Ng} (h : RnI l s r x) (hz : rdN r (ordP l) x ≠ []) : RnI l s r (nxN l s r (ordP l) x) ∧ muT (nxN l s r (ordP l) x).2.2.1 < muT x.2.2.1 := by
  obtain ⟨h1, h2⟩ := h.j.next (ordP_rng hl) hcr hz
  obtain ⟨f, hf, e⟩ := h.f
  obtain ⟨g, rfl⟩ : ∃ g, f = g + 1 := ⟨f - 1, by omega⟩
  exact ⟨⟨h1, g, by omega, by rw [← e, runN_next hz]⟩, h2⟩

noncomputable def rndV (l : List Cm) (s r : List Bool) (w : List Int) : List (List Int) := if (ngF l s r w).1 = 0 then (endN l s r).2.2.2 else []
noncomputable def sntV (l : List Cm) (s r : List Bool) (w : List Int) : List Int := if (ngF l s r w).1 = 0 then sentP l (endN l s r).2.1 w else []
noncomputable def sp_Run : SpecF := pureSp false [.slice tCm, .slice .bool, .slice .bool, .slice (.int .i64)] (fun _ => True) (fun (l', s', r', w', _) => .tu [(false, [.d (.slice (.slice (.int .i64))) (rndV l' s' r' w')]), (false, [.d (.slice (.int .i64)) (sntV l' s' r' w')]), (true, [.d (.int .i64) (ngF l' s' r' w').1, .d (.int .i64) (ngF l' s' r' w').2])])
set_option maxHeartbeats 4000000 in
theorem Run_sp : SpFact 21 sp_Run := by
  refine ⟨⟨Try.f21, rfl, rfl, rfl, pureSp_okF (env_fine (sp := [(43, sp_ncheck), (44, sp_Order), (45, sp_wout), (46, sp_Of)]) (eq := [(24, true)]) ⟨ncheck_sp, Order_sp, wout_sp, Of_sp, True.intro⟩ ⟨eq_fault, True.intro⟩) rfl (fun _ _ => rfl) ?_⟩, pureSp_loc _ _ _ _⟩
  rintro ⟨l, s, r, w, u⟩ - -
  change List Cm at l
  change List Bool at s r
  change List Int at w
  dsimp only
  by_cases h : (ngF l s r w).1 = 0
  · have e1 : rndV l s r w = (endN l s r).2.2.2 := if_pos h
    have e2 : sntV l s r w = sentP l (endN l s r).2.1 w := if_pos h
    obtain ⟨⟨h1, h2, h3, h4, h5, h6, h7⟩, hz⟩ := ngF_ok h
    have hz2 : (ngF l s r w).2 = 0 := by rw [hz]
    have hf : (decide ((ngF l s r w).1 = 0) && decide ((ngF l s r w).2 = 0)) = true := by rw [h, hz2]; rfl
    rw [e1, e2, h, hz2]
    clear hz e1 e2
    have hl := hC_len h1
    have hp := parOk_of h1
    have hw : OfPre l w := ⟨h1, by omega, fun n hn => (h7 n hn).1⟩
    have hon : ∀ n : Int, 0 ≤ n → n < l.length → OfPre l [n] := fun n n0 n1 => ⟨h1, by simp, fun m hm => by rw [List.mem_singleton] at hm; rw [hm]; exact ⟨n0, n1⟩⟩
    have hor := ordP_rng hp
    have hol := ordP_len l
    have hin := RnI.init l s r
    replace h := Lib.hid h
    replace hz2 := Lib.hid hz2
    replace hf := Lib.hid hf
    replace h1 := Lib.hid h1
    replace h4 := Lib.hid h4
    replace h5 := Lib.hid h5
    replace h7 := Lib.hid h7
    replace hp := Lib.hid hp
    replace hw := Lib.hid hw
    replace hon := Lib.hid hon
    replace hor := Lib.hid hor
    replace hin := Lib.hid hin
    (refine fnM_of rfl rfl rfl rfl ?_; dsimp only [params, argAV, Ty.leaves, Ty.isSt])
    (repeat' (first | (with_reducible refine Cend.go ?_) | (with_reducible refine Step.mk True.intro ?_) | (with_reducible refine Step.mk ?_ ?_; focus (((try simp only [true_and, and_true, and_self, kmin, kmax, decide_eq_true_eq, decide_eq_false_iff_not, castD_self, castL_self, List.length_cons, List.length_nil, List.length_append, Int.natCast_add] at *) <;> omega))) | (with_reducible refine Step.mk ?_ ?_) | (with_reducible refine Way.t1 ?_) | (with_reducible refine Way.f1 ?_) | ((with_reducible refine Way.dec (fun zz => ?_) (fun zz => ?_)) <;> (try simp only [castD_self, castL_self] at zz) <;> try (exfalso; first | omega | contradiction)) | (with_reducible refine Way.nt ?_) | ((with_reducible refine Way.mk (fun _ => ?_) (fun _ => ?_)) <;> try (exfalso; rename_i hw; first | exact Bool.noConfusion ((Go.RowKit.Hid.out hf).symm.trans hw) | exact Bool.noConfusion (hw.symm.trans (Go.RowKit.Hid.out hf)))) | (with_reducible refine Drawn.mk (by kernel_rfl) ?_) | (refine Run.mk ?_)))
    · exact h1.out
    refine loop_by (X := Ng) (fun x => [.put 0 (.v false [.d (.slice tCm) l]), .put 1 (.v false [.d (.slice .bool) s]), .put 2 (.v false [.d (.slice .bool) r]), .put 3 (.v false [.d (.slice (.int .i64)) w]), .put 10 (.v false [.p 10 0]), .put 12 (.v false [.d (.slice (.int .i64)) (ordP l)]),
        .put 14 (.v false [.o 41]), .put 15 (.v false [.o 44]), .put 16 (.v false [.o 901]), .put 17 (.v false [.d (.int .i64) x.1])])
      (fun x => [.put 10 (.box 24 [.d (.int .i64) 0, .d (.int .i64) 0]), .put 41 (.row 4 .bool x.2.1), .put 44 (.row 4 .bool x.2.2.1), .put 901 (.row 27 (.slice (.int .i64)) x.2.2.2)]) (RnI l s r) (fun x => muT x.2.2.1) (1, List.replicate l.length false, List.replicate l.length false, []) hin.out ?_ ?_
    · refine Wk.trans (Wk.nilrow 16 901 27 (.slice (.int .i64)) rfl) ?_
      (refine Wk.keep ?_ ?_ <;> repeat' (first | exact True.intro | refine And.intro rfl ?_ | refine And.intro (congrArg (fun z : Int => AV.v false [Lf.d (.int .i64) z]) (by first | omega | (simp only [Int.natCast_add, List.length_cons, List.length_append, List.length_nil]; omega))) ?_ | refine And.intro ?_ ?_))
      all_goals skip
    clear hin
    rintro ⟨m, c, t, Rs⟩ hI
    have hstop : rdR m (opP r t c) (ordP l) = [] → endN l s r = (m, c, t, Rs) := hI.stop
    have hnext : rdR m (opP r t c) (ordP l) ≠ [] → RnI l s r (min (2 * m) 16, shS l s (rdR m (opP r t c) (ordP l)) c, onS (rdR m (opP r t c) (ordP l)) t, Rs ++ [rdR m (opP r t c) (ordP l)]) ∧ muT (onS (rdR m (opP r t c) (ordP l)) t) < muT t := fun z => hI.next hp.out h5.out z
    obtain ⟨⟨hm0, hm1⟩, hc, ht, -, -, hfew⟩ := hI.j
    dsimp only at hm0 hm1 hc ht hfew ⊢
    clear hI
    have hRs : Rs.length ≤ 60 := by omega
    clear hfew
    replace hstop := Lib.hid hstop
    replace hnext := Lib.hid hnext
    have hme : ∀ n ∈ rdR m (opP r t c) (ordP l), 0 ≤ n ∧ n < l.length := fun n hn => hor.out n (rdR_mem hn).1
    replace hme := Lib.hid hme
    generalize ordP l = o at *
    (repeat' (first | (with_reducible refine Cend.go ?_) | (with_reducible refine Step.mk True.intro ?_) | (with_reducible refine Step.mk ?_ ?_; focus (((try simp only [true_and, and_true, and_self, kmin, kmax, decide_eq_true_eq, decide_eq_false_iff_not, castD_self, castL_self, List.length_cons, List.length_nil, List.length_append, Int.natCast_add] at *) <;> omega))) | (with_reducible refine Step.mk ?_ ?_) | (with_reducible refine Way.t1 ?_) | (with_reducible refine Way.f1 ?_) | ((with_reducible refine Way.dec (fun _ => ?_) (fun _ => ?_)) <;> try (exfalso; omega)) | (with_reducible refine Way.nt ?_) | (with_reducible refine Way.mk (fun _ => ?_) (fun _ => ?_)) | (with_reducible refine Drawn.mk (by kernel_rfl) ?_) | (refine Run.mk ?_)))
    refine loop_by (X := Nat) (fun x => [.put 0 (.v false [.d (.slice tCm) l]), .put 1 (.v false [.d (.slice .bool) s]), .put 2 (.v false [.d (.slice .bool) r]), .put 3 (.v false [.d (.slice (.int .i64)) w]), .put 10 (.v false [.p 10 0]), .put 12 (.v false [.d (.slice (.int .i64)) o]),
        .put 14 (.v false [.o 41]), .put 15 (.v false [.o 44]), .put 16 (.v false [.o 901]), .put 17 (.v false [.d (.int .i64) m]), .put 18 (.v false [.o 902]), .put 48 (.v false [.d (.slice (.int .i64)) o]), .put 49 (.v false [.d (.int .i64) (o.length : Int)]), .put 50 (.v false [.d (.int .i64) (x : Int)])])
      (fun x => [.put 10 (.box 24 [.d (.int .i64) 0, .d (.int .i64) 0]), .put 41 (.row 4 .bool c), .put 44 (.row 4 .bool t), .put 901 (.row 27 (.slice (.int .i64)) Rs), .put 902 (.row 3 (.int .i64) (rdR m (opP r t c) (o.take x)))]) (fun x => x ≤ o.length) (fun x => o.length - x) 0 (Nat.zero_le _) ?_ ?_
    · refine Wk.trans (Wk.nilrow 18 902 3 (.int .i64) rfl) ?_
      (refine Wk.keep ?_ ?_ <;> repeat' (first | exact True.intro | refine And.intro rfl ?_ | refine And.intro (congrArg (fun z : Int => AV.v false [Lf.d (.int .i64) z]) (by first | omega | (simp only [Int.natCast_add, List.length_cons, List.length_append, List.length_nil]; omega))) ?_ | refine And.intro ?_ ?_))
      all_goals skip
    intro q hq
    by_cases hlq : q < o.length
    · have hg : o.getD ((q : Int)).toNat (Ty.int .i64).dflt = o[q] := getD_of _ hlq
      obtain ⟨m0, m1⟩ := hor.out _ (List.getElem_mem hlq)
      have hst := rdR_take (m := m) (P := opP r t c) hlq
      have hrl := rdR_len m (opP r t c) (o.take q)
      rw [List.length_take] at hrl
      rw [← hg] at m0 m1 hst
      clear hg
      generalize rdR m (opP r t c) (o.take q) = a at *
      clear hstop hnext hme
      replace hst := Lib.hid hst
      (repeat' (first | (with_reducible refine Cend.go ?_) | (with_reducible refine Step.mk True.intro ?_) | (with_reducible refine Step.mk ?_ ?_; focus (((try simp only [true_and, and_true, and_self, kmin, kmax, decide_eq_true_eq, decide_eq_false_iff_not, castD_self, castL_self, List.length_cons, List.length_nil, List.length_append, Int.natCast_add] at *) <;> omega))) | (with_reducible refine Step.mk ?_ ?_) | (with_reducible refine Way.t1 ?_) | (with_reducible refine Way.f1 ?_) | ((with_reducible refine Way.dec (fun _ => ?_) (fun _ => ?_)) <;> try (exfalso; omega)) | (with_reducible refine Way.nt ?_) | (with_reducible refine Way.mk (fun _ => ?_) (fun _ => ?_)) | (with_reducible refine Drawn.mk (by kernel_rfl) ?_) | (refine Run.mk ?_)))
      · rename_i hx hr ht'
        have hr : r.getD (Int.toNat (o.getD ((q : Int)).toNat (Ty.int .i64).dflt)) false = true := hr
        have ht' : t.getD (Int.toNat (o.getD ((q : Int)).toNat (Ty.int .i64).dflt)) false = true := ht'
        (refine Back.by (q + 1) ?_ ?_ ?_; focus (refine Wk.keep ?_ ?_ <;> repeat' (first | exact True.intro | refine And.intro rfl ?_ | refine And.intro (congrArg (fun z : Int => AV.v false [Lf.d (.int .i64) z]) (by first | omega | (simp only [Int.natCast_add, List.length_cons, List.length_append, List.length_nil]; omega))) ?_ | refine And.intro ?_ ?_)))
        · rw [hst.out]; unfold addR; rw [if_neg (fun z => by have z2 := z.2; unfold opP at z2; rw [hr, ht'] at z2; simp at z2)]; exact rfl
        · exact hlq
        · show o.length - (q + 1) < o.length - q; omega
      · rename_i hx hr ht' hc'
        have hr : r.getD (Int.toNat (o.getD ((q : Int)).toNat (Ty.int .i64).dflt)) false = true := hr
        have ht' : t.getD (Int.toNat (o.getD ((q : Int)).toNat (Ty.int .i64).dflt)) false = false := ht'
        have hc' : c.getD (Int.toNat (o.getD ((q : Int)).toNat (Ty.int .i64).dflt)) false = true := hc'
        (refine Back.by (q + 1) ?_ ?_ ?_; focus (refine Wk.keep ?_ ?_ <;> repeat' (first | exact True.intro | refine And.intro rfl ?_ | refine And.intro (congrArg (fun z : Int => AV.v false [Lf.d (.int .i64) z]) (by first | omega | (simp only [Int.natCast_add, List.length_cons, List.length_append, List.length_nil]; omega))) ?_ | refine And.intro ?_ ?_)))
        · rw [hst.out]; unfold addR; rw [if_neg (fun z => by have z2 := z.2; unfold opP at z2; rw [hr, ht', hc'] at z2; simp at z2)]; exact rfl
        · exact hlq
        · show o.length - (q + 1) < o.length - q; omega
      · rename_i hx hr ht' hc'
        have hr : r.getD (Int.toNat (o.getD ((q : Int)).toNat (Ty.int .i64).dflt)) false = true := hr
        have ht' : t.getD (Int.toNat (o.getD ((q : Int)).toNat (Ty.int .i64).dflt)) false = false := ht'
        have hc' : c.getD (Int.toNat (o.getD ((q : Int)).toNat (Ty.int .i64).dflt)) false = false := hc'
        have hP : opP r t c (o.getD ((q : Int)).toNat (Ty.int .i64).dflt) = true := by unfold opP; rw [hr, ht', hc']; rfl
        (refine Back.by (q + 1) ?_ ?_ ?_; focus (refine Wk.ren [(902, 81)] rfl ?_ ?_ <;> repeat' (first | exact True.intro | refine And.intro rfl ?_ | refine And.intro (congrArg (fun z : Int => AV.v false [Lf.d (.int .i64) z]) (by first | omega | (simp only [Int.natCast_add, List.length_cons, List.length_append, List.length_nil]; omega))) ?_ | refine And.intro ?_ ?_)))
        · rw [hst.out]; unfold addR; rw [if_pos ⟨hx, hP⟩]; exact rfl
        · exact hlq
        · show o.length - (q + 1) < o.length - q; omega
      · rename_i hx hr
        have hr : r.getD (Int.toNat (o.getD ((q : Int)).toNat (Ty.int .i64).dflt)) false = false := hr
        (refine Back.by (q + 1) ?_ ?_ ?_; focus (refine Wk.keep ?_ ?_ <;> repeat' (first | exact True.intro | refine And.intro rfl ?_ | refine And.intro (congrArg (fun z : Int => AV.v false [Lf.d (.int .i64) z]) (by first | omega | (simp only [Int.natCast_add, List.length_cons, List.length_append, List.length_nil]; omega))) ?_ | refine And.intro ?_ ?_)))
        · rw [hst.out]; unfold addR; rw [if_neg (fun z => by have z2 := z.2; unfold opP at z2; rw [hr] at z2; simp at z2)]; exact rfl
        · exact hlq
        · show o.length - (q + 1) < o.length - q; omega
      · rename_i hx
        (refine Back.by (q + 1) ?_ ?_ ?_; focus (refine Wk.keep ?_ ?_ <;> repeat' (first | exact True.intro | refine And.intro rfl ?_ | refine And.intro (congrArg (fun z : Int => AV.v false [Lf.d (.int .i64) z]) (by first | omega | (simp only [Int.natCast_add, List.length_cons, List.length_append, List.length_nil]; omega))) ?_ | refine And.intro ?_ ?_)))
        · rw [hst.out]; unfold addR; rw [if_neg (fun z => hx z.1)]; exact rfl
        · exact hlq
        · show o.length - (q + 1) < o.length - q; omega
    · have e : o.take q = o := List.take_of_length_le (by omega)
      rw [e]
      clear e
      have hRl := rdR_len m (opP r t c) o
      generalize rdR m (opP r t c) o = R at *
      by_cases hR : R = []
      · have hen := hstop.out hR
        clear hstop hnext hme
        have hR0 : R.length = 0 := by rw [hR]; rfl
        clear hR
        rw [hen]
        (repeat' (first | (with_reducible refine Cend.go ?_) | (with_reducible refine Step.mk True.intro ?_) | (with_reducible refine Step.mk ?_ ?_; focus (((try simp only [true_and, and_true, and_self, kmin, kmax, decide_eq_true_eq, decide_eq_false_iff_not, castD_self, castL_self, List.length_cons, List.length_nil, List.length_append, Int.natCast_add] at *) <;> omega))) | (with_reducible refine Step.mk ?_ ?_) | (with_reducible refine Way.t1 ?_) | (with_reducible refine Way.f1 ?_) | ((with_reducible refine Way.dec (fun _ => ?_) (fun _ => ?_)) <;> try (exfalso; omega)) | (with_reducible refine Way.nt ?_) | (with_reducible refine Way.mk (fun _ => ?_) (fun _ => ?_)) | (with_reducible refine Drawn.mk (by kernel_rfl) ?_) | (refine Run.mk ?_)))
        · exact ⟨hw.out, hc⟩
        exact Ret.mk ⟨⟨rfl, .frz rfl, True.intro⟩, ⟨rfl, .frz rfl, True.intro⟩, ⟨rfl, .same, .same, True.intro⟩, True.intro⟩
      · have hR0 : 0 < R.length := List.length_pos_iff.2 hR
        have hR1 : R.length ≤ 60 := by omega
        obtain ⟨hi2, hmu⟩ := hnext.out hR
        clear hR hstop hnext
        replace hi2 := Lib.hid hi2
        (repeat' (first | (with_reducible refine Cend.go ?_) | (with_reducible refine Step.mk True.intro ?_) | (with_reducible refine Step.mk ?_ ?_; focus (((try simp only [true_and, and_true, and_self, kmin, kmax, decide_eq_true_eq, decide_eq_false_iff_not, castD_self, castL_self, List.length_cons, List.length_nil, List.length_append, Int.natCast_add] at *) <;> omega))) | (with_reducible refine Step.mk ?_ ?_) | (with_reducible refine Way.t1 ?_) | (with_reducible refine Way.f1 ?_) | ((with_reducible refine Way.dec (fun _ => ?_) (fun _ => ?_)) <;> try (exfalso; omega)) | (with_reducible refine Way.nt ?_) | (with_reducible refine Way.mk (fun _ => ?_) (fun _ => ?_)) | (with_reducible refine Drawn.mk (by kernel_rfl) ?_) | (refine Run.mk ?_)))
        refine loop_by (X := Nat) (fun x => [.put 0 (.v false [.d (.slice tCm) l]), .put 1 (.v false [.d (.slice .bool) s]), .put 2 (.v false [.d (.slice .bool) r]), .put 3 (.v false [.d (.slice (.int .i64)) w]), .put 10 (.v false [.p 10 0]), .put 12 (.v false [.d (.slice (.int .i64)) o]),
            .put 14 (.v false [.o 41]), .put 15 (.v false [.o 44]), .put 16 (.v false [.o 901]), .put 17 (.v false [.d (.int .i64) m]), .put 18 (.v false [.o 902]), .put 92 (.v false [.o 902]), .put 93 (.v false [.d (.int .i64) (R.length : Int)]), .put 94 (.v false [.d (.int .i64) (x : Int)])])
          (fun x => [.put 10 (.box 24 [.d (.int .i64) 0, .d (.int .i64) 0]), .put 41 (.row 4 .bool (shS l s (R.take x) c)), .put 44 (.row 4 .bool (onS (R.take x) t)), .put 901 (.row 27 (.slice (.int .i64)) Rs), .put 902 (.row 3 (.int .i64) R)]) (fun x => x ≤ R.length) (fun x => R.length - x) 0 (Nat.zero_le _) ?_ ?_
        · (refine Wk.keep ?_ ?_ <;> repeat' (first | exact True.intro | refine And.intro rfl ?_ | refine And.intro (congrArg (fun z : Int => AV.v false [Lf.d (.int .i64) z]) (by first | omega | (simp only [Int.natCast_add, List.length_cons, List.length_append, List.length_nil]; omega))) ?_ | refine And.intro ?_ ?_))
          all_goals skip
        intro p hp2
        by_cases hlp : p < R.length
        · have hg : R.getD ((p : Int)).toNat (Ty.int .i64).dflt = R[p] := getD_of _ hlp
          obtain ⟨m0, m1⟩ := hme.out _ (List.getElem_mem hlp)
          have hof := hon.out _ m0 m1
          have hsh := shS_take (l := l) (s := s) (c := c) hlp
          have hon2 := onS_take (s := t) hlp
          have hcl : (shS l s (R.take p) c).length = l.length := shS_len hc
          have htl : (onS (R.take p) t).length = l.length := (onS_len _ _).trans ht
          have hal : (ancB l [R[p]]).length = l.length := ancB_len _ _
          rw [← hg] at m0 m1 hof hsh hon2 hal
          clear hg
          generalize shS l s (R.take p) c = C at *
          generalize onS (R.take p) t = T at *
          replace hof := Lib.hid hof
          replace hsh := Lib.hid hsh
          replace hon2 := Lib.hid hon2
          (repeat' (first | (with_reducible refine Cend.go ?_) | (with_reducible refine Step.mk True.intro ?_) | (with_reducible refine Step.mk ?_ ?_; focus (((try simp only [true_and, and_true, and_self, kmin, kmax, decide_eq_true_eq, decide_eq_false_iff_not, castD_self, castL_self, List.length_cons, List.length_nil, List.length_append, Int.natCast_add] at *) <;> omega))) | (with_reducible refine Step.mk ?_ ?_) | (with_reducible refine Way.t1 ?_) | (with_reducible refine Way.f1 ?_) | ((with_reducible refine Way.dec (fun _ => ?_) (fun _ => ?_)) <;> try (exfalso; omega)) | (with_reducible refine Way.nt ?_) | (with_reducible refine Way.mk (fun _ => ?_) (fun _ => ?_)) | (with_reducible refine Drawn.mk (by kernel_rfl) ?_) | (refine Run.mk ?_)))
          · exact hof.out
          · rename_i hx
            have hx : s.getD (Int.toNat (R.getD ((p : Int)).toNat (Ty.int .i64).dflt)) false = true := hx
            have he : shO l s C (R.getD ((p : Int)).toNat (Ty.int .i64).dflt) = tabB (uniF C (ancB l [(R.getD ((p : Int)).toNat (Ty.int .i64).dflt)])) l.length := if_pos hx
            have hCt : tabB (fun i => C.getD i false) l.length = C := by rw [← hcl]; exact tabB_of C
            replace he := Lib.hid he
            replace hCt := Lib.hid hCt
            refine loop_by (X := Nat) (fun x => [.put 0 (.v false [.d (.slice tCm) l]), .put 1 (.v false [.d (.slice .bool) s]), .put 2 (.v false [.d (.slice .bool) r]), .put 3 (.v false [.d (.slice (.int .i64)) w]), .put 10 (.v false [.p 10 0]), .put 12 (.v false [.d (.slice (.int .i64)) o]),
                .put 14 (.v false [.o 41]), .put 15 (.v false [.o 44]), .put 16 (.v false [.o 901]), .put 17 (.v false [.d (.int .i64) m]), .put 18 (.v false [.o 902]), .put 92 (.v false [.o 902]), .put 93 (.v false [.d (.int .i64) (R.length : Int)]), .put 94 (.v false [.d (.int .i64) (p : Int)]),
                .put 109 (.v false [.o 109]), .put 110 (.v false [.d (.int .i64) (l.length : Int)]), .put 111 (.v false [.d (.int .i64) (x : Int)])])
              (fun x => [.put 10 (.box 24 [.d (.int .i64) 0, .d (.int .i64) 0]), .put 41 (.row 4 .bool (mixB (fun i => C.getD i false) (uniF C (ancB l [(R.getD ((p : Int)).toNat (Ty.int .i64).dflt)])) l.length x)), .put 44 (.row 4 .bool (onO T (R.getD ((p : Int)).toNat (Ty.int .i64).dflt))), .put 901 (.row 27 (.slice (.int .i64)) Rs), .put 902 (.row 3 (.int .i64) R), .put 109 (.row 4 .bool (ancB l [(R.getD ((p : Int)).toNat (Ty.int .i64).dflt)]))]) (fun x => x ≤ l.length) (fun x => l.length - x) 0 (Nat.zero_le _) ?_ ?_
            · (refine Wk.keep ?_ ?_ <;> repeat' (first | exact True.intro | refine And.intro rfl ?_ | refine And.intro (congrArg (fun z : Int => AV.v false [Lf.d (.int .i64) z]) (by first | omega | (simp only [Int.natCast_add, List.length_cons, List.length_append, List.length_nil]; omega))) ?_ | refine And.intro ?_ ?_))
              · show AV.v false [Lf.d (.int .i64) ((ancB l [(R.getD ((p : Int)).toNat (Ty.int .i64).dflt)]).length : Int)] = AV.v false [Lf.d (.int .i64) (l.length : Int)]
                rw [hal]
              · rw [mixB_0, hCt.out]; exact rfl
            intro i hi
            by_cases hli : i < l.length
            · have hml := mixB_len (fun i => C.getD i false) (uniF C (ancB l [(R.getD ((p : Int)).toNat (Ty.int .i64).dflt)])) l.length i
              have hms := mixB_set (fun i => C.getD i false) (uniF C (ancB l [(R.getD ((p : Int)).toNat (Ty.int .i64).dflt)])) (n := l.length) (k := i)
              have hmg : (mixB (fun i => C.getD i false) (uniF C (ancB l [(R.getD ((p : Int)).toNat (Ty.int .i64).dflt)])) l.length i).getD i false = C.getD i false := by
                unfold mixB
                rw [tabB_at _ hli, if_neg (Nat.lt_irrefl i)]
              clear he hsh hon2 hi2 hmu hof hx
              generalize ancB l [(R.getD ((p : Int)).toNat (Ty.int .i64).dflt)] = A at *
              generalize onO T (R.getD ((p : Int)).toNat (Ty.int .i64).dflt) = T2 at *
              obtain ⟨b, hb⟩ : ∃ b, mixB (fun i => C.getD i false) (uniF C A) l.length i = b := ⟨_, rfl⟩
              rw [hb] at hml hms hmg ⊢
              clear hb
              replace hms := Lib.hid hms
              replace hmg := Lib.hid hmg
              (repeat' (first | (with_reducible refine Cend.go ?_) | (with_reducible refine Step.mk True.intro ?_) | (with_reducible refine Step.mk ?_ ?_; focus (((try simp only [true_and, and_true, and_self, kmin, kmax, decide_eq_true_eq, decide_eq_false_iff_not, castD_self, castL_self, List.length_cons, List.length_nil, List.length_append, Int.natCast_add] at *) <;> omega))) | (with_reducible refine Step.mk ?_ ?_) | (with_reducible refine Way.t1 ?_) | (with_reducible refine Way.f1 ?_) | ((with_reducible refine Way.dec (fun _ => ?_) (fun _ => ?_)) <;> try (exfalso; omega)) | (with_reducible refine Way.nt ?_) | (with_reducible refine Way.mk (fun _ => ?_) (fun _ => ?_)) | (with_reducible refine Drawn.mk (by kernel_rfl) ?_) | (refine Run.mk ?_)))
              · rename_i hx
                have hx : b.getD i false = true := hx
                have e : uniF C A i = true := by unfold uniF; rw [← hmg.out, hx]; rfl
                (refine Back.by (i + 1) ?_ ?_ ?_; focus (refine Wk.keep ?_ ?_ <;> repeat' (first | exact True.intro | refine And.intro rfl ?_ | refine And.intro (congrArg (fun z : Int => AV.v false [Lf.d (.int .i64) z]) (by first | omega | (simp only [Int.natCast_add, List.length_cons, List.length_append, List.length_nil]; omega))) ?_ | refine And.intro ?_ ?_)))
                · rw [← hms.out, e]; exact rfl
                · exact hli
                · show l.length - (i + 1) < l.length - i; omega
              · rename_i hx
                have hx : b.getD i false = false := hx
                have e : uniF C A i = A.getD i false := by unfold uniF; rw [← hmg.out, hx]; rfl
                (refine Back.by (i + 1) ?_ ?_ ?_; focus (refine Wk.keep ?_ ?_ <;> repeat' (first | exact True.intro | refine And.intro rfl ?_ | refine And.intro (congrArg (fun z : Int => AV.v false [Lf.d (.int .i64) z]) (by first | omega | (simp only [Int.natCast_add, List.length_cons, List.length_append, List.length_nil]; omega))) ?_ | refine And.intro ?_ ?_)))
                · rw [← hms.out, e]; exact rfl
                · exact hli
                · show l.length - (i + 1) < l.length - i; omega
            · have e : i = l.length := by omega
              subst e
              rw [mixB_n, ← he.out]
              (repeat' (first | (with_reducible refine Cend.go ?_) | (with_reducible refine Step.mk True.intro ?_) | (with_reducible refine Step.mk ?_ ?_; focus (((try simp only [true_and, and_true, and_self, kmin, kmax, decide_eq_true_eq, decide_eq_false_iff_not, castD_self, castL_self, List.length_cons, List.length_nil, List.length_append, Int.natCast_add] at *) <;> omega))) | (with_reducible refine Step.mk ?_ ?_) | (with_reducible refine Way.t1 ?_) | (with_reducible refine Way.f1 ?_) | ((with_reducible refine Way.dec (fun _ => ?_) (fun _ => ?_)) <;> try (exfalso; omega)) | (with_reducible refine Way.nt ?_) | (with_reducible refine Way.mk (fun _ => ?_) (fun _ => ?_)) | (with_reducible refine Drawn.mk (by kernel_rfl) ?_) | (refine Run.mk ?_)))
              (refine Back.by (p + 1) ?_ ?_ ?_; focus (refine Wk.keep ?_ ?_ <;> repeat' (first | exact True.intro | refine And.intro rfl ?_ | refine And.intro (congrArg (fun z : Int => AV.v false [Lf.d (.int .i64) z]) (by first | omega | (simp only [Int.natCast_add, List.length_cons, List.length_append, List.length_nil]; omega))) ?_ | refine And.intro ?_ ?_)))
              · rw [hsh.out]; exact rfl
              · rw [hon2.out]; exact rfl
              · exact hlp
              · show R.length - (p + 1) < R.length - p; omega
          · rename_i hx
            have hx : s.getD (Int.toNat (R.getD ((p : Int)).toNat (Ty.int .i64).dflt)) false = false := hx
            have he : shO l s C (R.getD ((p : Int)).toNat (Ty.int .i64).dflt) = C := if_neg (by rw [hx]; decide)
            (refine Back.by (p + 1) ?_ ?_ ?_; focus (refine Wk.keep ?_ ?_ <;> repeat' (first | exact True.intro | refine And.intro rfl ?_ | refine And.intro (congrArg (fun z : Int => AV.v false [Lf.d (.int .i64) z]) (by first | omega | (simp only [Int.natCast_add, List.length_cons, List.length_append, List.length_nil]; omega))) ?_ | refine And.intro ?_ ?_)))
            · rw [hsh.out, he]; exact rfl
            · rw [hon2.out]; exact rfl
            · exact hlp
            · show R.length - (p + 1) < R.length - p; omega
        · have e : R.take p = R := List.take_of_length_le (by omega)
          rw [e]
          (repeat' (first | (with_reducible refine Cend.go ?_) | (with_reducible refine Step.mk True.intro ?_) | (with_reducible refine Step.mk ?_ ?_; focus (((try simp only [true_and, and_true, and_self, kmin, kmax, decide_eq_true_eq, decide_eq_false_iff_not, castD_self, castL_self, List.length_cons, List.length_nil, List.length_append, Int.natCast_add] at *) <;> omega))) | (with_reducible refine Step.mk ?_ ?_) | (with_reducible refine Way.t1 ?_) | (with_reducible refine Way.f1 ?_) | ((with_reducible refine Way.dec (fun _ => ?_) (fun _ => ?_)) <;> try (exfalso; omega)) | (with_reducible refine Way.nt ?_) | (with_reducible refine Way.mk (fun _ => ?_) (fun _ => ?_)) | (with_reducible refine Drawn.mk (by kernel_rfl) ?_) | (refine Run.mk ?_)))
          · show (-9223372036854775808 : Int) ≤ min (2 * m) 16 ∧ min (2 * m) 16 ≤ (9223372036854775807 : Int); omega
          refine Back.by (min (2 * m) 16, shS l s R c, onS R t, Rs ++ [R]) ?_ ?_ ?_
          · refine (Wk.pack 131 (E := 27) (t := .slice (.int .i64)) (x := R) (l1 := Rs) (l2 := []) (cs := [.o 902]) (hl' := [.put 10 (.box 24 [.d (.int .i64) 0, .d (.int .i64) 0]), .put 41 (.row 4 .bool (shS l s R c)), .put 44 (.row 4 .bool (onS R t))]) rfl rfl ⟨rfl, rfl, rfl, True.intro⟩ rfl rfl).trans ?_
            (refine Wk.ren [(901, 131)] rfl ?_ ?_ <;> repeat' (first | exact True.intro | refine And.intro rfl ?_ | refine And.intro (congrArg (fun z : Int => AV.v false [Lf.d (.int .i64) z]) (by first | omega | (simp only [Int.natCast_add, List.length_cons, List.length_append, List.length_nil]; omega))) ?_ | refine And.intro ?_ ?_))
          · exact hi2.out
          · exact hmu
  · have e1 : rndV l s r w = [] := if_neg h
    have e2 : sntV l s r w = [] := if_neg h
    have hf : (decide ((ngF l s r w).1 = 0) && decide ((ngF l s r w).2 = 0)) = false := by rw [decide_eq_false h]; rfl
    rw [e1, e2]
    replace hf := Lib.hid hf
    replace h := Lib.hid h
    (refine fnM_of rfl rfl rfl rfl ?_; dsimp only [params, argAV, Ty.leaves, Ty.isSt])
    (repeat' (first | (with_reducible refine Cend.go ?_) | (with_reducible refine Step.mk True.intro ?_) | (with_reducible refine Step.mk ?_ ?_; focus (((try simp only [true_and, and_true, and_self, kmin, kmax, decide_eq_true_eq, decide_eq_false_iff_not, castD_self, castL_self, List.length_cons, List.length_nil, List.length_append, Int.natCast_add] at *) <;> omega))) | (with_reducible refine Step.mk ?_ ?_) | (with_reducible refine Way.t1 ?_) | (with_reducible refine Way.f1 ?_) | ((with_reducible refine Way.dec (fun zz => ?_) (fun zz => ?_)) <;> (try simp only [castD_self, castL_self] at zz) <;> try (exfalso; first | omega | contradiction)) | (with_reducible refine Way.nt ?_) | ((with_reducible refine Way.mk (fun _ => ?_) (fun _ => ?_)) <;> try (exfalso; rename_i hw; first | exact Bool.noConfusion ((Go.RowKit.Hid.out hf).symm.trans hw) | exact Bool.noConfusion (hw.symm.trans (Go.RowKit.Hid.out hf)))) | (with_reducible refine Drawn.mk (by kernel_rfl) ?_) | (refine Run.mk ?_)))
    exact Ret.mk ⟨⟨rfl, .frz rfl, True.intro⟩, ⟨rfl, .frz rfl, True.intro⟩, ⟨rfl, .inl rfl, .inl rfl, True.intro⟩, True.intro⟩
end Go.Proofs.Ytgdlbpihkodeoaa
