/- negotiate.gap, with the library's ContainsFunc and the closure run in place. -/
import Derived.Test.YtgdlbpihkodeoaaNegPure
import Derived.Test.YtgdlbpihkodeoaaWxOf
namespace Go.Proofs.Ytgdlbpihkodeoaa
open Go.RowKit
set_option maxRecDepth 20000
set_option linter.unusedSimpArgs false

def sp_gap : SpecF := pureSp false [.slice tCm, .slice .bool] (fun (l', s', _) => hC l' = 0 ∧ List.length s' = List.length l') (fun (l', s', _) => .v false [.d (.int .i64) (gapP l' s')])
set_option maxHeartbeats 1000000 in
theorem gap_sp : SpFact 63 sp_gap := by
  refine ⟨⟨Try.f63, rfl, rfl, rfl, pureSp_ok (env1_fine (sp := []) (eq := [])
    (inl := [(71, Try.f71), (75, Try.f75), (72, Try.f72)]) (cl := []) True.intro True.intro ⟨⟨rfl, rfl, rfl⟩, ⟨rfl, rfl, rfl⟩, ⟨rfl, rfl, rfl⟩, True.intro⟩) rfl (fun _ _ => rfl) ?_⟩, pureSp_loc _ _ _ _⟩
  rintro ⟨l, s, u⟩ - ⟨hC0, hs⟩
  change List Cm at l
  change List Bool at s
  have hC0 : hC l = 0 := hC0
  have hs : s.length = l.length := hs
  have hl := hC_len hC0
  have hp := parOk_of hC0
  have hb := hC_par hC0
  clear hC0
  replace hp := Lib.hid hp
  replace hb := Lib.hid hb
  dsimp only
  (refine fnM_of rfl rfl rfl rfl ?_; dsimp only [params, argAV, Ty.leaves, Ty.isSt])
  (repeat' (first | (with_reducible refine Cend.go ?_) | (with_reducible refine Step.mk True.intro ?_) | (with_reducible refine Step.mk ?_ ?_; focus (((try simp only [true_and, and_true, and_self, kmin, kmax, decide_eq_true_eq, decide_eq_false_iff_not, castD_self, castL_self, List.length_cons, List.length_nil, List.length_append, Int.natCast_add] at *) <;> omega))) | (with_reducible refine Step.mk ?_ ?_) | (with_reducible refine Way.t1 ?_) | (with_reducible refine Way.f1 ?_) | ((with_reducible refine Way.dec (fun _ => ?_) (fun _ => ?_)) <;> try (exfalso; omega)) | (with_reducible refine Way.nt ?_) | (with_reducible refine Way.mk (fun _ => ?_) (fun _ => ?_)) | (with_reducible refine Drawn.mk (by kernel_rfl) ?_) | (refine Run.mk ?_)))
  refine loop_by (X := Nat) (fun x => [.put 0 (.v false [.d (.slice tCm) l]), .put 3 (.v false [.p 3 0]), .put 7 (.v false [.d (.slice tCm) l]), .put 8 (.v false [.d (.int .i64) (l.length : Int)]), .put 9 (.v false [.d (.int .i64) (x : Int)])])
    (fun x => [.put 3 (.box 51 [.d (.slice .bool) s])]) (fun x => x ≤ l.length ∧ gapP l s = gapI s x (l.drop x)) (fun x => l.length - x) 0 ⟨Nat.zero_le _, rfl⟩ ?_ ?_
  · (refine Wk.keep ?_ ?_ <;> repeat' (first | exact True.intro | refine And.intro rfl ?_ | refine And.intro (congrArg (fun z : Int => AV.v false [Lf.d (.int .i64) z]) (by first | omega | (simp only [Int.natCast_add, List.length_cons, List.length_append, List.length_nil]; omega))) ?_ | refine And.intro ?_ ?_))
  rintro k ⟨hk, hgp⟩
  by_cases hlt : k < l.length
  · have hg : l.getD ((k : Int)).toNat tCm.dflt = l[k] := getD_of _ hlt
    rw [gapI_step hlt] at hgp
    have hpr := hp.out k hlt
    have hpl := hb.out _ (List.getElem_mem hlt)
    rw [← hg] at hgp hpr hpl
    clear hg
    replace hgp := Lib.hid hgp
    replace hpr := Lib.hid hpr
    (repeat' (first | (with_reducible refine Cend.go ?_) | (with_reducible refine Step.mk True.intro ?_) | (with_reducible refine Step.mk ?_ ?_; focus (((try simp only [true_and, and_true, and_self, kmin, kmax, decide_eq_true_eq, decide_eq_false_iff_not, castD_self, castL_self, List.length_cons, List.length_nil, List.length_append, Int.natCast_add] at *) <;> omega))) | (with_reducible refine Step.mk ?_ ?_) | (with_reducible refine Way.t1 ?_) | (with_reducible refine Way.f1 ?_) | ((with_reducible refine Way.dec (fun _ => ?_) (fun _ => ?_)) <;> try (exfalso; omega)) | (with_reducible refine Way.nt ?_) | (with_reducible refine Way.mk (fun _ => ?_) (fun _ => ?_)) | (with_reducible refine Drawn.mk (by kernel_rfl) ?_) | (refine Run.mk ?_)))
    · rename_i hx
      have hx : s.getD k false = true := hx
      generalize (l.getD ((k : Int)).toNat tCm.dflt).1 = ps at *
      show LoopG (cH 3 _) _ _ _ _ _ _ _
      refine loop_by (X := Nat) (fun x => [.put 0 (.v false [.d (.slice (.int .i64)) ps]), .put 1 (.v false [.fn 72 [3]]), .put 6 (.v false [.d (.slice (.int .i64)) ps]), .put 7 (.v false [.d (.int .i64) (ps.length : Int)]), .put 8 (.v false [.d (.int .i64) (x : Int)]), .mark, .mark,
          .put 0 (.v false [.d (.slice tCm) l]), .put 3 (.v false [.p 3 0]), .put 5 (.v false [.d (.int .i64) (k : Int)]), .put 7 (.v false [.d (.slice tCm) l]), .put 8 (.v false [.d (.int .i64) (l.length : Int)]), .put 9 (.v false [.d (.int .i64) (k : Int)]), .put 18 (.v false [.d .bool true])])
        (fun x => [.put 3 (.box 51 [.d (.slice .bool) s])]) (fun x => x ≤ ps.length ∧ idxI s 0 ps = idxI s x (ps.drop x)) (fun x => ps.length - x) 0 ⟨Nat.zero_le _, rfl⟩ ?_ ?_
      · (refine Wk.keep ?_ ?_ <;> repeat' (first | exact True.intro | refine And.intro rfl ?_ | refine And.intro (congrArg (fun z : Int => AV.v false [Lf.d (.int .i64) z]) (by first | omega | (simp only [Int.natCast_add, List.length_cons, List.length_append, List.length_nil]; omega))) ?_ | refine And.intro ?_ ?_))
      rintro q ⟨hq, hid⟩
      by_cases hlq : q < ps.length
      · have hg : ps.getD ((q : Int)).toNat (Ty.int .i64).dflt = ps[q] := getD_of _ hlq
        obtain ⟨m0, m1⟩ := hpr.out _ (List.getElem_mem hlq)
        rw [idxI_step hlq] at hid
        rw [← hg] at m0 m1 hid
        clear hg
        replace hid := Lib.hid hid
        (repeat' (first | (with_reducible refine Cend.go ?_) | (with_reducible refine Step.mk True.intro ?_) | (with_reducible refine Step.mk ?_ ?_; focus (((try simp only [true_and, and_true, and_self, kmin, kmax, decide_eq_true_eq, decide_eq_false_iff_not, castD_self, castL_self, List.length_cons, List.length_nil, List.length_append, Int.natCast_add] at *) <;> omega))) | (with_reducible refine Step.mk ?_ ?_) | (with_reducible refine Way.t1 ?_) | (with_reducible refine Way.f1 ?_) | ((with_reducible refine Way.dec (fun _ => ?_) (fun _ => ?_)) <;> try (exfalso; omega)) | (with_reducible refine Way.nt ?_) | (with_reducible refine Way.mk (fun _ => ?_) (fun _ => ?_)) | (with_reducible refine Drawn.mk (by kernel_rfl) ?_) | (refine Run.mk ?_)))
        · rename_i hy
          have hy : s.getD (Int.toNat (ps.getD ((q : Int)).toNat (Ty.int .i64).dflt)) false = true := hy
          (refine Back.by (q + 1) ?_ ?_ ?_; focus (refine Wk.keep ?_ ?_ <;> repeat' (first | exact True.intro | refine And.intro rfl ?_ | refine And.intro (congrArg (fun z : Int => AV.v false [Lf.d (.int .i64) z]) (by first | omega | (simp only [Int.natCast_add, List.length_cons, List.length_append, List.length_nil]; omega))) ?_ | refine And.intro ?_ ?_)))
          · exact ⟨hlq, hid.out.trans (if_neg (by rw [hy]; decide))⟩
          · show ps.length - (q + 1) < ps.length - q; omega
        · rename_i hy _
          have hy : s.getD (Int.toNat (ps.getD ((q : Int)).toNat (Ty.int .i64).dflt)) false = false := hy
          have e1 := hid.out.trans (if_pos hy)
          have e2 : gapN s ps = true := (idxI_any (Int.le_refl 0)).1 (by rw [e1]; omega)
          refine Ret.mk ?_
          rw [hgp.out.trans (if_pos ⟨hx, e2⟩)]
          exact rfl
      · have e : idxI s 0 ps = -1 := by rw [hid, List.drop_eq_nil_of_le (by omega)]; rfl
        have e2 : ¬ gapN s ps = true := fun z => by
          have := (idxI_any (Int.le_refl 0)).2 z
          rw [e] at this
          exact absurd this (by decide)
        clear e
        (repeat' (first | (with_reducible refine Cend.go ?_) | (with_reducible refine Step.mk True.intro ?_) | (with_reducible refine Step.mk ?_ ?_; focus (((try simp only [true_and, and_true, and_self, kmin, kmax, decide_eq_true_eq, decide_eq_false_iff_not, castD_self, castL_self, List.length_cons, List.length_nil, List.length_append, Int.natCast_add] at *) <;> omega))) | (with_reducible refine Step.mk ?_ ?_) | (with_reducible refine Way.t1 ?_) | (with_reducible refine Way.f1 ?_) | ((with_reducible refine Way.dec (fun _ => ?_) (fun _ => ?_)) <;> try (exfalso; omega)) | (with_reducible refine Way.nt ?_) | (with_reducible refine Way.mk (fun _ => ?_) (fun _ => ?_)) | (with_reducible refine Drawn.mk (by kernel_rfl) ?_) | (refine Run.mk ?_)))
        (refine Back.by (k + 1) ?_ ?_ ?_; focus (refine Wk.keep ?_ ?_ <;> repeat' (first | exact True.intro | refine And.intro rfl ?_ | refine And.intro (congrArg (fun z : Int => AV.v false [Lf.d (.int .i64) z]) (by first | omega | (simp only [Int.natCast_add, List.length_cons, List.length_append, List.length_nil]; omega))) ?_ | refine And.intro ?_ ?_)))
        · exact ⟨hlt, hgp.out.trans (if_neg (fun z => e2 z.2))⟩
        · show l.length - (k + 1) < l.length - k; omega
    · rename_i hx
      have hx : s.getD k false = false := hx
      (refine Back.by (k + 1) ?_ ?_ ?_; focus (refine Wk.keep ?_ ?_ <;> repeat' (first | exact True.intro | refine And.intro rfl ?_ | refine And.intro (congrArg (fun z : Int => AV.v false [Lf.d (.int .i64) z]) (by first | omega | (simp only [Int.natCast_add, List.length_cons, List.length_append, List.length_nil]; omega))) ?_ | refine And.intro ?_ ?_)))
      · exact ⟨hlt, hgp.out.trans (if_neg (by rw [hx]; exact fun z => by cases z.1))⟩
      · show l.length - (k + 1) < l.length - k; omega
  · have e : gapP l s = -1 := by rw [hgp, List.drop_eq_nil_of_le (by omega)]; rfl
    rw [e]
    (repeat' (first | (with_reducible refine Cend.go ?_) | (with_reducible refine Step.mk True.intro ?_) | (with_reducible refine Step.mk ?_ ?_; focus (((try simp only [true_and, and_true, and_self, kmin, kmax, decide_eq_true_eq, decide_eq_false_iff_not, castD_self, castL_self, List.length_cons, List.length_nil, List.length_append, Int.natCast_add] at *) <;> omega))) | (with_reducible refine Step.mk ?_ ?_) | (with_reducible refine Way.t1 ?_) | (with_reducible refine Way.f1 ?_) | ((with_reducible refine Way.dec (fun _ => ?_) (fun _ => ?_)) <;> try (exfalso; omega)) | (with_reducible refine Way.nt ?_) | (with_reducible refine Way.mk (fun _ => ?_) (fun _ => ?_)) | (with_reducible refine Drawn.mk (by kernel_rfl) ?_) | (refine Run.mk ?_)))
    exact Ret.mk rfl
end Go.Proofs.Ytgdlbpihkodeoaa
