/- negotiate: check, without. -/
import Derived.Test.YtgdlbpihkodeoaaWxGap
import Derived.Test.YtgdlbpihkodeoaaWxBis
namespace Go.Proofs.Ytgdlbpihkodeoaa
open Go.RowKit
set_option maxRecDepth 20000
set_option linter.unusedSimpArgs false

def sp_ncheck : SpecF := pureSp false [.slice tCm, .slice .bool, .slice .bool, .slice (.int .i64)] (fun _ => True) (fun (l', s', r', w', _) => .v true [.d (.int .i64) (ngF l' s' r' w').1, .d (.int .i64) (ngF l' s' r' w').2])
set_option maxHeartbeats 1000000 in
theorem ncheck_sp : SpFact 43 sp_ncheck := by
  refine ⟨⟨Try.f43, rfl, rfl, rfl, pureSp_ok (env_fine (sp := [(25, sp_HVal), (63, sp_gap), (60, sp_Is)]) (eq := [(24, true)]) ⟨HVal_sp, gap_sp, Is_sp, True.intro⟩ ⟨eq_fault, True.intro⟩) rfl (fun _ _ => rfl) ?_⟩, pureSp_loc _ _ _ _⟩
  rintro ⟨l, s, r, w, u⟩ ⟨-, ⟨hsl, -⟩, ⟨hrl, -⟩, ⟨hwl, -⟩, -⟩ -
  change List Cm at l
  change List Bool at s r
  change List Int at w
  rw [maxLen_eq] at hsl hrl hwl
  have hsl : s.length ≤ 9223372036854775807 := hsl
  have hrl : r.length ≤ 9223372036854775807 := hrl
  have hwl : w.length ≤ 9223372036854775807 := hwl
  dsimp only
  by_cases h1 : hC l = 0
  · have hf : (decide (hC l = 0) && decide (hI l = 0)) = true := by rw [h1, hI_good l h1]; rfl
    have hl := hC_len h1
    replace hf := Lib.hid hf
    have e1 : ngF l s r w = if s.length ≠ l.length then (9, -1) else if r.length ≠ l.length then (9, -2) else if 0 ≤ gapP l s then (5, gapP l s) else if 0 ≤ gapP l r then (5, -3 - gapP l r) else if 60 < w.length then (2, -1) else if 0 ≤ owI l.length s 0 w then (6, owI l.length s 0 w) else (0, 0) := if_neg (Classical.not_not.2 h1)
    rw [e1]
    clear e1
    by_cases h2 : s.length = l.length
    · rw [if_neg (Classical.not_not.2 h2)]
      by_cases h3 : r.length = l.length
      · rw [if_neg (Classical.not_not.2 h3)]
        have b1 : gapP l s = -1 ∨ (0 ≤ gapP l s ∧ gapP l s < 60) := (gapI_bd (s := s) (l := l) (k := 0)).imp id fun h => ⟨h.1, by have := h.2; show gapI s 0 l < 60; omega⟩
        have b2 : gapP l r = -1 ∨ (0 ≤ gapP l r ∧ gapP l r < 60) := (gapI_bd (s := r) (l := l) (k := 0)).imp id fun h => ⟨h.1, by have := h.2; show gapI r 0 l < 60; omega⟩
        have q1 : hC l = 0 ∧ s.length = l.length := ⟨h1, h2⟩
        have q2 : hC l = 0 ∧ r.length = l.length := ⟨h1, h3⟩
        replace q1 := Lib.hid q1
        replace q2 := Lib.hid q2
        replace h1 := Lib.hid h1
        by_cases h4 : 0 ≤ gapP l s
        · rw [if_pos h4]
          (refine fnM_of rfl rfl rfl rfl ?_; dsimp only [params, argAV, Ty.leaves, Ty.isSt])
          (repeat' (first | (with_reducible refine Cend.go ?_) | (with_reducible refine Step.mk True.intro ?_) | (with_reducible refine Step.mk ?_ ?_; focus (((try simp only [true_and, and_true, and_self, kmin, kmax, decide_eq_true_eq, decide_eq_false_iff_not, castD_self, castL_self, List.length_cons, List.length_nil, List.length_append, Int.natCast_add] at *) <;> omega))) | (with_reducible refine Step.mk ?_ ?_) | (with_reducible refine Way.t1 ?_) | (with_reducible refine Way.f1 ?_) | ((with_reducible refine Way.dec (fun zz => ?_) (fun zz => ?_)) <;> (try simp only [castD_self, castL_self] at zz) <;> try (exfalso; first | omega | contradiction)) | (with_reducible refine Way.nt ?_) | ((with_reducible refine Way.mk (fun _ => ?_) (fun _ => ?_)) <;> try (exfalso; rename_i hw; first | exact Bool.noConfusion ((Go.RowKit.Hid.out hf).symm.trans hw) | exact Bool.noConfusion (hw.symm.trans (Go.RowKit.Hid.out hf)))) | (with_reducible refine Drawn.mk (by kernel_rfl) ?_) | (refine Run.mk ?_)))
          · exact q1.out
          exact Ret.mk rfl
        rw [if_neg h4]
        by_cases h5 : 0 ≤ gapP l r
        · rw [if_pos h5]
          (refine fnM_of rfl rfl rfl rfl ?_; dsimp only [params, argAV, Ty.leaves, Ty.isSt])
          (repeat' (first | (with_reducible refine Cend.go ?_) | (with_reducible refine Step.mk True.intro ?_) | (with_reducible refine Step.mk ?_ ?_; focus (((try simp only [true_and, and_true, and_self, kmin, kmax, decide_eq_true_eq, decide_eq_false_iff_not, castD_self, castL_self, List.length_cons, List.length_nil, List.length_append, Int.natCast_add] at *) <;> omega))) | (with_reducible refine Step.mk ?_ ?_) | (with_reducible refine Way.t1 ?_) | (with_reducible refine Way.f1 ?_) | ((with_reducible refine Way.dec (fun zz => ?_) (fun zz => ?_)) <;> (try simp only [castD_self, castL_self] at zz) <;> try (exfalso; first | omega | contradiction)) | (with_reducible refine Way.nt ?_) | ((with_reducible refine Way.mk (fun _ => ?_) (fun _ => ?_)) <;> try (exfalso; rename_i hw; first | exact Bool.noConfusion ((Go.RowKit.Hid.out hf).symm.trans hw) | exact Bool.noConfusion (hw.symm.trans (Go.RowKit.Hid.out hf)))) | (with_reducible refine Drawn.mk (by kernel_rfl) ?_) | (refine Run.mk ?_)))
          · exact q1.out
          · exact q2.out
          exact Ret.mk rfl
        rw [if_neg h5]
        by_cases h6 : 60 < w.length
        · rw [if_pos h6]
          (refine fnM_of rfl rfl rfl rfl ?_; dsimp only [params, argAV, Ty.leaves, Ty.isSt])
          (repeat' (first | (with_reducible refine Cend.go ?_) | (with_reducible refine Step.mk True.intro ?_) | (with_reducible refine Step.mk ?_ ?_; focus (((try simp only [true_and, and_true, and_self, kmin, kmax, decide_eq_true_eq, decide_eq_false_iff_not, castD_self, castL_self, List.length_cons, List.length_nil, List.length_append, Int.natCast_add] at *) <;> omega))) | (with_reducible refine Step.mk ?_ ?_) | (with_reducible refine Way.t1 ?_) | (with_reducible refine Way.f1 ?_) | ((with_reducible refine Way.dec (fun zz => ?_) (fun zz => ?_)) <;> (try simp only [castD_self, castL_self] at zz) <;> try (exfalso; first | omega | contradiction)) | (with_reducible refine Way.nt ?_) | ((with_reducible refine Way.mk (fun _ => ?_) (fun _ => ?_)) <;> try (exfalso; rename_i hw; first | exact Bool.noConfusion ((Go.RowKit.Hid.out hf).symm.trans hw) | exact Bool.noConfusion (hw.symm.trans (Go.RowKit.Hid.out hf)))) | (with_reducible refine Drawn.mk (by kernel_rfl) ?_) | (refine Run.mk ?_)))
          · exact q1.out
          · exact q2.out
          exact Ret.mk rfl
        rw [if_neg h6]
        (refine fnM_of rfl rfl rfl rfl ?_; dsimp only [params, argAV, Ty.leaves, Ty.isSt])
        (repeat' (first | (with_reducible refine Cend.go ?_) | (with_reducible refine Step.mk True.intro ?_) | (with_reducible refine Step.mk ?_ ?_; focus (((try simp only [true_and, and_true, and_self, kmin, kmax, decide_eq_true_eq, decide_eq_false_iff_not, castD_self, castL_self, List.length_cons, List.length_nil, List.length_append, Int.natCast_add] at *) <;> omega))) | (with_reducible refine Step.mk ?_ ?_) | (with_reducible refine Way.t1 ?_) | (with_reducible refine Way.f1 ?_) | ((with_reducible refine Way.dec (fun zz => ?_) (fun zz => ?_)) <;> (try simp only [castD_self, castL_self] at zz) <;> try (exfalso; first | omega | contradiction)) | (with_reducible refine Way.nt ?_) | ((with_reducible refine Way.mk (fun _ => ?_) (fun _ => ?_)) <;> try (exfalso; rename_i hw; first | exact Bool.noConfusion ((Go.RowKit.Hid.out hf).symm.trans hw) | exact Bool.noConfusion (hw.symm.trans (Go.RowKit.Hid.out hf)))) | (with_reducible refine Drawn.mk (by kernel_rfl) ?_) | (refine Run.mk ?_)))
        · exact q1.out
        · exact q2.out
        refine loop_by (X := Nat) (fun x => [.put 0 (.v false [.d (.slice tCm) l]), .put 1 (.v false [.d (.slice .bool) s]), .put 8 (.v false [.p 8 0]), .put 51 (.v false [.d (.slice (.int .i64)) w]), .put 52 (.v false [.d (.int .i64) (w.length : Int)]), .put 53 (.v false [.d (.int .i64) (x : Int)])])
          (fun x => [.put 8 (.box 24 [.d (.int .i64) 0, .d (.int .i64) 0])]) (fun x => x ≤ w.length ∧ owI l.length s 0 w = owI l.length s x (w.drop x)) (fun x => w.length - x) 0 ⟨Nat.zero_le _, rfl⟩ ?_ ?_
        · (refine Wk.keep ?_ ?_ <;> repeat' (first | exact True.intro | refine And.intro rfl ?_ | refine And.intro (congrArg (fun z : Int => AV.v false [Lf.d (.int .i64) z]) (by first | omega | (simp only [Int.natCast_add, List.length_cons, List.length_append, List.length_nil]; omega))) ?_ | refine And.intro ?_ ?_))
        rintro k ⟨hk, hs⟩
        by_cases hlt : k < w.length
        · have hgk : w.getD ((k : Int)).toNat (Ty.int .i64).dflt = w[k] := getD_of _ hlt
          rw [owI_step hlt, ← hgk] at hs
          replace hs := Lib.hid hs
          clear hgk
          (repeat' (first | (with_reducible refine Cend.go ?_) | (with_reducible refine Step.mk True.intro ?_) | (with_reducible refine Step.mk ?_ ?_; focus (((try simp only [true_and, and_true, and_self, kmin, kmax, decide_eq_true_eq, decide_eq_false_iff_not, castD_self, castL_self, List.length_cons, List.length_nil, List.length_append, Int.natCast_add] at *) <;> omega))) | (with_reducible refine Step.mk ?_ ?_) | (with_reducible refine Way.t1 ?_) | (with_reducible refine Way.f1 ?_) | ((with_reducible refine Way.dec (fun zz => ?_) (fun zz => ?_)) <;> (try simp only [castD_self, castL_self] at zz) <;> try (exfalso; first | omega | contradiction)) | (with_reducible refine Way.nt ?_) | ((with_reducible refine Way.mk (fun _ => ?_) (fun _ => ?_)) <;> try (exfalso; rename_i hw; first | exact Bool.noConfusion ((Go.RowKit.Hid.out hf).symm.trans hw) | exact Bool.noConfusion (hw.symm.trans (Go.RowKit.Hid.out hf)))) | (with_reducible refine Drawn.mk (by kernel_rfl) ?_) | (refine Run.mk ?_)))
          · have hx : 0 ≤ w.getD ((k : Int)).toNat (Ty.int .i64).dflt ∧ w.getD ((k : Int)).toNat (Ty.int .i64).dflt < (l.length : Int) := zz
            omega
          · rename_i hy
            have hx : 0 ≤ w.getD ((k : Int)).toNat (Ty.int .i64).dflt ∧ w.getD ((k : Int)).toNat (Ty.int .i64).dflt < (l.length : Int) := zz
            have hy : s.getD (Int.toNat (w.getD ((k : Int)).toNat (Ty.int .i64).dflt)) false = true := hy
            (refine Back.by (k + 1) ?_ ?_ ?_; focus (refine Wk.keep ?_ ?_ <;> repeat' (first | exact True.intro | refine And.intro rfl ?_ | refine And.intro (congrArg (fun z : Int => AV.v false [Lf.d (.int .i64) z]) (by first | omega | (simp only [Int.natCast_add, List.length_cons, List.length_append, List.length_nil]; omega))) ?_ | refine And.intro ?_ ?_)))
            · exact ⟨hlt, hs.out.trans (if_pos ⟨hx, hy⟩)⟩
            · show w.length - (k + 1) < w.length - k; omega
          · rename_i hy
            have hy : s.getD (Int.toNat (w.getD ((k : Int)).toNat (Ty.int .i64).dflt)) false = false := hy
            refine Ret.mk ?_
            rw [hs.out.trans (if_neg (fun z => by rw [hy] at z; cases z.2)), if_pos (by omega)]
            exact rfl
          · have hx : ¬ (0 ≤ w.getD ((k : Int)).toNat (Ty.int .i64).dflt ∧ w.getD ((k : Int)).toNat (Ty.int .i64).dflt < (l.length : Int)) := zz
            refine Ret.mk ?_
            rw [hs.out.trans (if_neg (fun z => hx z.1)), if_pos (by omega)]
            exact rfl
        · have hs : owI l.length s 0 w = -1 := by rw [hs, List.drop_eq_nil_of_le (by omega)]; rfl
          rw [if_neg (by omega)]
          (repeat' (first | (with_reducible refine Cend.go ?_) | (with_reducible refine Step.mk True.intro ?_) | (with_reducible refine Step.mk ?_ ?_; focus (((try simp only [true_and, and_true, and_self, kmin, kmax, decide_eq_true_eq, decide_eq_false_iff_not, castD_self, castL_self, List.length_cons, List.length_nil, List.length_append, Int.natCast_add] at *) <;> omega))) | (with_reducible refine Step.mk ?_ ?_) | (with_reducible refine Way.t1 ?_) | (with_reducible refine Way.f1 ?_) | ((with_reducible refine Way.dec (fun zz => ?_) (fun zz => ?_)) <;> (try simp only [castD_self, castL_self] at zz) <;> try (exfalso; first | omega | contradiction)) | (with_reducible refine Way.nt ?_) | ((with_reducible refine Way.mk (fun _ => ?_) (fun _ => ?_)) <;> try (exfalso; rename_i hw; first | exact Bool.noConfusion ((Go.RowKit.Hid.out hf).symm.trans hw) | exact Bool.noConfusion (hw.symm.trans (Go.RowKit.Hid.out hf)))) | (with_reducible refine Drawn.mk (by kernel_rfl) ?_) | (refine Run.mk ?_)))
          exact Ret.mk rfl
      · rw [if_pos h3]
        replace h1 := Lib.hid h1
        (refine fnM_of rfl rfl rfl rfl ?_; dsimp only [params, argAV, Ty.leaves, Ty.isSt])
        (repeat' (first | (with_reducible refine Cend.go ?_) | (with_reducible refine Step.mk True.intro ?_) | (with_reducible refine Step.mk ?_ ?_; focus (((try simp only [true_and, and_true, and_self, kmin, kmax, decide_eq_true_eq, decide_eq_false_iff_not, castD_self, castL_self, List.length_cons, List.length_nil, List.length_append, Int.natCast_add] at *) <;> omega))) | (with_reducible refine Step.mk ?_ ?_) | (with_reducible refine Way.t1 ?_) | (with_reducible refine Way.f1 ?_) | ((with_reducible refine Way.dec (fun zz => ?_) (fun zz => ?_)) <;> (try simp only [castD_self, castL_self] at zz) <;> try (exfalso; first | omega | contradiction)) | (with_reducible refine Way.nt ?_) | ((with_reducible refine Way.mk (fun _ => ?_) (fun _ => ?_)) <;> try (exfalso; rename_i hw; first | exact Bool.noConfusion ((Go.RowKit.Hid.out hf).symm.trans hw) | exact Bool.noConfusion (hw.symm.trans (Go.RowKit.Hid.out hf)))) | (with_reducible refine Drawn.mk (by kernel_rfl) ?_) | (refine Run.mk ?_)))
        exact Ret.mk rfl
    · rw [if_pos h2]
      replace h1 := Lib.hid h1
      (refine fnM_of rfl rfl rfl rfl ?_; dsimp only [params, argAV, Ty.leaves, Ty.isSt])
      (repeat' (first | (with_reducible refine Cend.go ?_) | (with_reducible refine Step.mk True.intro ?_) | (with_reducible refine Step.mk ?_ ?_; focus (((try simp only [true_and, and_true, and_self, kmin, kmax, decide_eq_true_eq, decide_eq_false_iff_not, castD_self, castL_self, List.length_cons, List.length_nil, List.length_append, Int.natCast_add] at *) <;> omega))) | (with_reducible refine Step.mk ?_ ?_) | (with_reducible refine Way.t1 ?_) | (with_reducible refine Way.f1 ?_) | ((with_reducible refine Way.dec (fun zz => ?_) (fun zz => ?_)) <;> (try simp only [castD_self, castL_self] at zz) <;> try (exfalso; first | omega | contradiction)) | (with_reducible refine Way.nt ?_) | ((with_reducible refine Way.mk (fun _ => ?_) (fun _ => ?_)) <;> try (exfalso; rename_i hw; first | exact Bool.noConfusion ((Go.RowKit.Hid.out hf).symm.trans hw) | exact Bool.noConfusion (hw.symm.trans (Go.RowKit.Hid.out hf)))) | (with_reducible refine Drawn.mk (by kernel_rfl) ?_) | (refine Run.mk ?_)))
      exact Ret.mk rfl
  · have hf : (decide (hC l = 0) && decide (hI l = 0)) = false := by rw [decide_eq_false h1]; rfl
    replace hf := Lib.hid hf
    have e : ngF l s r w = (hC l, hI l) := if_pos h1
    rw [e]
    replace h1 := Lib.hid h1
    (refine fnM_of rfl rfl rfl rfl ?_; dsimp only [params, argAV, Ty.leaves, Ty.isSt])
    (repeat' (first | (with_reducible refine Cend.go ?_) | (with_reducible refine Step.mk True.intro ?_) | (with_reducible refine Step.mk ?_ ?_; focus (((try simp only [true_and, and_true, and_self, kmin, kmax, decide_eq_true_eq, decide_eq_false_iff_not, castD_self, castL_self, List.length_cons, List.length_nil, List.length_append, Int.natCast_add] at *) <;> omega))) | (with_reducible refine Step.mk ?_ ?_) | (with_reducible refine Way.t1 ?_) | (with_reducible refine Way.f1 ?_) | ((with_reducible refine Way.dec (fun zz => ?_) (fun zz => ?_)) <;> (try simp only [castD_self, castL_self] at zz) <;> try (exfalso; first | omega | contradiction)) | (with_reducible refine Way.nt ?_) | ((with_reducible refine Way.mk (fun _ => ?_) (fun _ => ?_)) <;> try (exfalso; rename_i hw; first | exact Bool.noConfusion ((Go.RowKit.Hid.out hf).symm.trans hw) | exact Bool.noConfusion (hw.symm.trans (Go.RowKit.Hid.out hf)))) | (with_reducible refine Drawn.mk (by kernel_rfl) ?_) | (refine Run.mk ?_)))
    exact Ret.mk rfl

noncomputable def sp_wout : SpecF := ownSp true [.slice tCm, .slice (.int .i64), .slice .bool] 3 (.int .i64) (fun (l', w', c', _) => OfPre l' w' ∧ List.length c' = List.length l') (fun (l', w', c', _) => sentP l' c' w')
theorem wout_sp : SpFact 45 sp_wout := by
  refine ⟨⟨Try.f45, rfl, rfl, rfl, ownSp_ok (env_fine (sp := [(46, sp_Of)]) (eq := []) ⟨Of_sp, True.intro⟩ True.intro) rfl (fun _ => rfl) ?_⟩, ownSp_loc _ _ _ _ _ _⟩
  rintro ⟨l, w, c, u⟩ - ⟨hp, hc⟩
  change List Cm at l
  change List Int at w
  change List Bool at c
  have hp : OfPre l w := hp
  have hc : c.length = l.length := hc
  have hl := hC_len hp.1
  have h1 : (ancB l w).length = l.length := ancB_len l w
  replace hp := Lib.hid hp
  dsimp only
  (refine fnM_of rfl rfl rfl rfl ?_; dsimp only [params, argAV, Ty.leaves, Ty.isSt])
  (repeat' (first | (with_reducible refine Cend.go ?_) | (with_reducible refine Step.mk True.intro ?_) | (with_reducible refine Step.mk ?_ ?_; focus (((try simp only [true_and, and_true, and_self, kmin, kmax, decide_eq_true_eq, decide_eq_false_iff_not, castD_self, castL_self, List.length_cons, List.length_nil, List.length_append, Int.natCast_add] at *) <;> omega))) | (with_reducible refine Step.mk ?_ ?_) | (with_reducible refine Way.t1 ?_) | (with_reducible refine Way.f1 ?_) | ((with_reducible refine Way.dec (fun _ => ?_) (fun _ => ?_)) <;> try (exfalso; omega)) | (with_reducible refine Way.nt ?_) | (with_reducible refine Way.mk (fun _ => ?_) (fun _ => ?_)) | (with_reducible refine Drawn.mk (by kernel_rfl) ?_) | (refine Run.mk ?_)))
  all_goals skip
  refine loop_by (X := Nat) (fun x => [.put 2 (.v false [.d (.slice .bool) c]), .put 7 (.v false [.o 91]), .put 12 (.v false [.o 12]), .put 13 (.v false [.d (.int .i64) (l.length : Int)]), .put 14 (.v false [.d (.int .i64) (x : Int)])])
    (fun x => [.put 12 (.row 4 .bool (ancB l w)), .put 91 (.row 3 (.int .i64) (selK (minF (ancB l w) c) x))]) (fun x => x ≤ l.length) (fun x => l.length - x) 0 (Nat.zero_le _) ?_ ?_
  · refine Wk.trans (Wk.nilrow 7 91 3 (.int .i64) rfl) ?_
    (refine Wk.keep ?_ ?_ <;> repeat' (first | exact True.intro | refine And.intro rfl ?_ | refine And.intro (congrArg (fun z : Int => AV.v false [Lf.d (.int .i64) z]) (by first | omega | (simp only [Int.natCast_add, List.length_cons, List.length_append, List.length_nil]; omega))) ?_ | refine And.intro ?_ ?_))
    show AV.v false [Lf.d (.int .i64) ((ancB l w).length : Int)] = AV.v false [Lf.d (.int .i64) (l.length : Int)]
    rw [h1]
  unfold sentP
  generalize ancB l w = A at *
  intro k hk
  by_cases hlt : k < l.length
  · have hlen := selK_len (minF A c) k
    have hst : selK (minF A c) (k + 1) = if A.getD k false && !c.getD k false then selK (minF A c) k ++ [(k : Int)] else selK (minF A c) k := rfl
    obtain ⟨r, hr⟩ : ∃ r, selK (minF A c) k = r := ⟨_, rfl⟩
    rw [hr] at hlen hst ⊢
    clear hr
    replace hst := Lib.hid hst
    (repeat' (first | (with_reducible refine Cend.go ?_) | (with_reducible refine Step.mk True.intro ?_) | (with_reducible refine Step.mk ?_ ?_; focus (((try simp only [true_and, and_true, and_self, kmin, kmax, decide_eq_true_eq, decide_eq_false_iff_not, castD_self, castL_self, List.length_cons, List.length_nil, List.length_append, Int.natCast_add] at *) <;> omega))) | (with_reducible refine Step.mk ?_ ?_) | (with_reducible refine Way.t1 ?_) | (with_reducible refine Way.f1 ?_) | ((with_reducible refine Way.dec (fun _ => ?_) (fun _ => ?_)) <;> try (exfalso; omega)) | (with_reducible refine Way.nt ?_) | (with_reducible refine Way.mk (fun _ => ?_) (fun _ => ?_)) | (with_reducible refine Drawn.mk (by kernel_rfl) ?_) | (refine Run.mk ?_)))
    · rename_i hx hy
      have hx : A.getD k false = true := hx
      have hy : c.getD k false = true := hy
      (refine Back.by (k + 1) ?_ ?_ ?_; focus (refine Wk.keep ?_ ?_ <;> repeat' (first | exact True.intro | refine And.intro rfl ?_ | refine And.intro (congrArg (fun z : Int => AV.v false [Lf.d (.int .i64) z]) (by first | omega | (simp only [Int.natCast_add, List.length_cons, List.length_append, List.length_nil]; omega))) ?_ | refine And.intro ?_ ?_)))
      · rw [hst.out, hx, hy, if_neg (by decide)]; exact rfl
      · exact hlt
      · show l.length - (k + 1) < l.length - k; omega
    · rename_i hx hy
      have hx : A.getD k false = true := hx
      have hy : c.getD k false = false := hy
      (refine Back.by (k + 1) ?_ ?_ ?_; focus (refine Wk.ren [(91, 30)] rfl ?_ ?_ <;> repeat' (first | exact True.intro | refine And.intro rfl ?_ | refine And.intro (congrArg (fun z : Int => AV.v false [Lf.d (.int .i64) z]) (by first | omega | (simp only [Int.natCast_add, List.length_cons, List.length_append, List.length_nil]; omega))) ?_ | refine And.intro ?_ ?_)))
      · rw [hst.out, hx, hy, if_pos (by decide)]; exact rfl
      · exact hlt
      · show l.length - (k + 1) < l.length - k; omega
    · rename_i hx
      have hx : A.getD k false = false := hx
      (refine Back.by (k + 1) ?_ ?_ ?_; focus (refine Wk.keep ?_ ?_ <;> repeat' (first | exact True.intro | refine And.intro rfl ?_ | refine And.intro (congrArg (fun z : Int => AV.v false [Lf.d (.int .i64) z]) (by first | omega | (simp only [Int.natCast_add, List.length_cons, List.length_append, List.length_nil]; omega))) ?_ | refine And.intro ?_ ?_)))
      · rw [hst.out, hx, Bool.false_and, if_neg (by decide)]; exact rfl
      · exact hlt
      · show l.length - (k + 1) < l.length - k; omega
  · have e : k = l.length := by omega
    subst e
    (repeat' (first | (with_reducible refine Cend.go ?_) | (with_reducible refine Step.mk True.intro ?_) | (with_reducible refine Step.mk ?_ ?_; focus (((try simp only [true_and, and_true, and_self, kmin, kmax, decide_eq_true_eq, decide_eq_false_iff_not, castD_self, castL_self, List.length_cons, List.length_nil, List.length_append, Int.natCast_add] at *) <;> omega))) | (with_reducible refine Step.mk ?_ ?_) | (with_reducible refine Way.t1 ?_) | (with_reducible refine Way.f1 ?_) | ((with_reducible refine Way.dec (fun _ => ?_) (fun _ => ?_)) <;> try (exfalso; omega)) | (with_reducible refine Way.nt ?_) | (with_reducible refine Way.mk (fun _ => ?_) (fun _ => ?_)) | (with_reducible refine Drawn.mk (by kernel_rfl) ?_) | (refine Run.mk ?_)))
    all_goals first | exact Ret.mk (.inl ⟨_, rfl, rfl⟩) | skip
end Go.Proofs.Ytgdlbpihkodeoaa
