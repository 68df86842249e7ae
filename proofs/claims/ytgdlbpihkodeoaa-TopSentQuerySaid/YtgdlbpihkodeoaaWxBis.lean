/- bisect: check, candidates, Candidates; the reference's BisectFault. -/
import Derived.Test.YtgdlbpihkodeoaaBisPure
import Derived.Test.YtgdlbpihkodeoaaWxReach
import Derived.Test.YtgdlbpihkodeoaaWxRef3
namespace Go.Proofs.Ytgdlbpihkodeoaa
open Go.RowKit
set_option maxRecDepth 20000
set_option linter.unusedSimpArgs false

def sp_Is : SpecF := pureSp true [.slice tCm, .int .i64] (fun _ => True) (fun (l', n', _) => .v false [.d .bool (decide (0 ≤ n' ∧ n' < (List.length l' : Int)))])
theorem Is_sp : SpFact 60 sp_Is := by
  refine ⟨⟨Try.f60, rfl, rfl, rfl, pureSp_ok (env_fine (sp := []) (eq := []) True.intro True.intro) rfl (fun _ _ => rfl) ?_⟩, pureSp_loc _ _ _ _⟩
  rintro ⟨l, n, u⟩ ⟨⟨hl, -⟩, -⟩ -
  change List Cm at l
  change Int at n
  rw [maxLen_eq] at hl
  have hl : l.length ≤ 9223372036854775807 := hl
  dsimp only
  by_cases h0 : 0 ≤ n
  · (refine fnM_of rfl rfl rfl rfl ?_; dsimp only [params, argAV, Ty.leaves, Ty.isSt])
    (repeat' (first | (with_reducible refine Cend.go ?_) | (with_reducible refine Step.mk True.intro ?_) | (with_reducible refine Step.mk ?_ ?_; focus (((try simp only [true_and, and_true, and_self, kmin, kmax, decide_eq_true_eq, decide_eq_false_iff_not, castD_self, castL_self, List.length_cons, List.length_nil, List.length_append, Int.natCast_add] at *) <;> omega))) | (with_reducible refine Step.mk ?_ ?_) | (with_reducible refine Way.t1 ?_) | (with_reducible refine Way.f1 ?_) | ((with_reducible refine Way.dec (fun _ => ?_) (fun _ => ?_)) <;> try (exfalso; omega)) | (with_reducible refine Way.nt ?_) | (with_reducible refine Way.mk (fun _ => ?_) (fun _ => ?_)) | (with_reducible refine Drawn.mk (by kernel_rfl) ?_) | (refine Run.mk ?_)))
    refine Ret.mk (congrArg (fun b => AV.v false [Lf.d .bool b]) ?_)
    show decide (n < (l.length : Int)) = decide (0 ≤ n ∧ n < (l.length : Int))
    exact decide_eq_decide.2 ⟨fun h => ⟨h0, h⟩, fun h => h.2⟩
  · (refine fnM_of rfl rfl rfl rfl ?_; dsimp only [params, argAV, Ty.leaves, Ty.isSt])
    (repeat' (first | (with_reducible refine Cend.go ?_) | (with_reducible refine Step.mk True.intro ?_) | (with_reducible refine Step.mk ?_ ?_; focus (((try simp only [true_and, and_true, and_self, kmin, kmax, decide_eq_true_eq, decide_eq_false_iff_not, castD_self, castL_self, List.length_cons, List.length_nil, List.length_append, Int.natCast_add] at *) <;> omega))) | (with_reducible refine Step.mk ?_ ?_) | (with_reducible refine Way.t1 ?_) | (with_reducible refine Way.f1 ?_) | ((with_reducible refine Way.dec (fun _ => ?_) (fun _ => ?_)) <;> try (exfalso; omega)) | (with_reducible refine Way.nt ?_) | (with_reducible refine Way.mk (fun _ => ?_) (fun _ => ?_)) | (with_reducible refine Drawn.mk (by kernel_rfl) ?_) | (refine Run.mk ?_)))
    (refine Ret.mk (show AV.v false [Lf.d .bool false] = AV.v false [Lf.d .bool _] from congrArg (fun z => AV.v false [Lf.d .bool z]) (Eq.symm (decide_eq_false (fun h => h0 h.1)))))
noncomputable def sp_bcheck : SpecF := pureSp false [.slice tCm, .slice (.int .i64), .int .i64] (fun _ => True) (fun (l', g', b', _) => .v true [.d (.int .i64) (bisF l' g' b').1, .d (.int .i64) (bisF l' g' b').2])
theorem bcheck_sp : SpFact 35 sp_bcheck := by
  refine ⟨⟨Try.f35, rfl, rfl, rfl, pureSp_ok (env_fine (sp := [(25, sp_HVal), (60, sp_Is), (46, sp_Of)]) (eq := [(24, true)]) ⟨HVal_sp, Is_sp, Of_sp, True.intro⟩ ⟨eq_fault, True.intro⟩) rfl (fun _ _ => rfl) ?_⟩, pureSp_loc _ _ _ _⟩
  rintro ⟨l, g, b, u⟩ ⟨-, ⟨hg, -⟩, -⟩ -
  change List Cm at l
  change List Int at g
  change Int at b
  rw [maxLen_eq] at hg
  have hg : g.length ≤ 9223372036854775807 := hg
  dsimp only
  by_cases h1 : hC l = 0
  · have hf : (decide (hC l = 0) && decide (hI l = 0)) = true := by rw [h1, hI_good l h1]; rfl
    have hl := hC_len h1
    replace hf := Lib.hid hf
    by_cases h2 : 0 ≤ b ∧ b < l.length
    · by_cases h3 : 60 < g.length
      · have e : bisF l g b = (2, -2) := (if_neg (Classical.not_not.2 h1)).trans ((if_neg (Classical.not_not.2 h2)).trans (if_pos h3))
        rw [e]
        replace h1 := Lib.hid h1
        (refine fnM_of rfl rfl rfl rfl ?_; dsimp only [params, argAV, Ty.leaves, Ty.isSt])
        (repeat' (first | (with_reducible refine Cend.go ?_) | (with_reducible refine Step.mk True.intro ?_) | (with_reducible refine Step.mk ?_ ?_; focus (((try simp only [true_and, and_true, and_self, kmin, kmax, decide_eq_true_eq, decide_eq_false_iff_not, castD_self, castL_self, List.length_cons, List.length_nil, List.length_append, Int.natCast_add] at *) <;> omega))) | (with_reducible refine Step.mk ?_ ?_) | (with_reducible refine Way.t1 ?_) | (with_reducible refine Way.f1 ?_) | ((with_reducible refine Way.dec (fun zz => ?_) (fun zz => ?_)) <;> (try simp only [castD_self, castL_self] at zz) <;> try (exfalso; first | omega | contradiction)) | (with_reducible refine Way.nt ?_) | ((with_reducible refine Way.mk (fun _ => ?_) (fun _ => ?_)) <;> try (exfalso; rename_i hw; first | exact Bool.noConfusion ((Go.RowKit.Hid.out hf).symm.trans hw) | exact Bool.noConfusion (hw.symm.trans (Go.RowKit.Hid.out hf)))) | (with_reducible refine Drawn.mk (by kernel_rfl) ?_) | (refine Run.mk ?_)))
        exact Ret.mk rfl
      · have hOfl : (ancB l g).length = l.length := ancB_len l g
        have hrest : bisF l g b = if 0 ≤ outI l.length 0 g then (6, outI l.length 0 g) else if (ancB l g).getD b.toNat false = true then (11, -1) else (0, 0) := (if_neg (Classical.not_not.2 h1)).trans ((if_neg (Classical.not_not.2 h2)).trans (if_neg h3))
        rw [hrest]
        have hneg := outI_neg (n := l.length) (l := g) (Int.le_refl 0)
        have hOf : outI l.length 0 g < 0 → OfPre l g := fun h => ⟨h1, by omega, hneg.1 h⟩
        clear hneg hrest
        replace h1 := Lib.hid h1
        replace hOf := Lib.hid hOf
        (refine fnM_of rfl rfl rfl rfl ?_; dsimp only [params, argAV, Ty.leaves, Ty.isSt])
        (repeat' (first | (with_reducible refine Cend.go ?_) | (with_reducible refine Step.mk True.intro ?_) | (with_reducible refine Step.mk ?_ ?_; focus (((try simp only [true_and, and_true, and_self, kmin, kmax, decide_eq_true_eq, decide_eq_false_iff_not, castD_self, castL_self, List.length_cons, List.length_nil, List.length_append, Int.natCast_add] at *) <;> omega))) | (with_reducible refine Step.mk ?_ ?_) | (with_reducible refine Way.t1 ?_) | (with_reducible refine Way.f1 ?_) | ((with_reducible refine Way.dec (fun zz => ?_) (fun zz => ?_)) <;> (try simp only [castD_self, castL_self] at zz) <;> try (exfalso; first | omega | contradiction)) | (with_reducible refine Way.nt ?_) | ((with_reducible refine Way.mk (fun _ => ?_) (fun _ => ?_)) <;> try (exfalso; rename_i hw; first | exact Bool.noConfusion ((Go.RowKit.Hid.out hf).symm.trans hw) | exact Bool.noConfusion (hw.symm.trans (Go.RowKit.Hid.out hf)))) | (with_reducible refine Drawn.mk (by kernel_rfl) ?_) | (refine Run.mk ?_)))
        refine loop_by (X := Nat) (fun x => [.put 0 (.v false [.d (.slice tCm) l]), .put 1 (.v false [.d (.slice (.int .i64)) g]), .put 2 (.v false [.d (.int .i64) b]), .put 6 (.v false [.p 6 0]), .put 25 (.v false [.d (.slice (.int .i64)) g]), .put 26 (.v false [.d (.int .i64) (g.length : Int)]), .put 27 (.v false [.d (.int .i64) (x : Int)])])
          (fun x => [.put 6 (.box 24 [.d (.int .i64) 0, .d (.int .i64) 0])]) (fun x => x ≤ g.length ∧ outI l.length 0 g = outI l.length x (g.drop x)) (fun x => g.length - x) 0 ⟨Nat.zero_le _, rfl⟩ ?_ ?_
        · (refine Wk.keep ?_ ?_ <;> repeat' (first | exact True.intro | refine And.intro rfl ?_ | refine And.intro (congrArg (fun z : Int => AV.v false [Lf.d (.int .i64) z]) (by first | omega | (simp only [Int.natCast_add, List.length_cons, List.length_append, List.length_nil]; omega))) ?_ | refine And.intro ?_ ?_))
        rintro k ⟨hk, hs⟩
        by_cases hlt : k < g.length
        · have hgk : g.getD ((k : Int)).toNat (Ty.int .i64).dflt = g[k] := getD_of _ hlt
          rw [outI_step hlt, ← hgk] at hs
          replace hs := Lib.hid hs
          clear hgk
          (repeat' (first | (with_reducible refine Cend.go ?_) | (with_reducible refine Step.mk True.intro ?_) | (with_reducible refine Step.mk ?_ ?_; focus (((try simp only [true_and, and_true, and_self, kmin, kmax, decide_eq_true_eq, decide_eq_false_iff_not, castD_self, castL_self, List.length_cons, List.length_nil, List.length_append, Int.natCast_add] at *) <;> omega))) | (with_reducible refine Step.mk ?_ ?_) | (with_reducible refine Way.t1 ?_) | (with_reducible refine Way.f1 ?_) | ((with_reducible refine Way.dec (fun zz => ?_) (fun zz => ?_)) <;> (try simp only [castD_self, castL_self] at zz) <;> try (exfalso; first | omega | contradiction)) | (with_reducible refine Way.nt ?_) | ((with_reducible refine Way.mk (fun _ => ?_) (fun _ => ?_)) <;> try (exfalso; rename_i hw; first | exact Bool.noConfusion ((Go.RowKit.Hid.out hf).symm.trans hw) | exact Bool.noConfusion (hw.symm.trans (Go.RowKit.Hid.out hf)))) | (with_reducible refine Drawn.mk (by kernel_rfl) ?_) | (refine Run.mk ?_)))
          · have hx : 0 ≤ g.getD ((k : Int)).toNat (Ty.int .i64).dflt ∧ g.getD ((k : Int)).toNat (Ty.int .i64).dflt < (l.length : Int) := zz
            (refine Back.by (k + 1) ?_ ?_ ?_; focus (refine Wk.keep ?_ ?_ <;> repeat' (first | exact True.intro | refine And.intro rfl ?_ | refine And.intro (congrArg (fun z : Int => AV.v false [Lf.d (.int .i64) z]) (by first | omega | (simp only [Int.natCast_add, List.length_cons, List.length_append, List.length_nil]; omega))) ?_ | refine And.intro ?_ ?_)))
            · exact ⟨hlt, hs.out.trans (if_pos hx)⟩
            · show g.length - (k + 1) < g.length - k; omega
          · have hx : ¬ (0 ≤ g.getD ((k : Int)).toNat (Ty.int .i64).dflt ∧ g.getD ((k : Int)).toNat (Ty.int .i64).dflt < (l.length : Int)) := zz
            refine Ret.mk ?_
            rw [hs.out.trans (if_neg hx), if_pos (by omega)]
            exact rfl
        · have hs : outI l.length 0 g = -1 := by rw [hs, List.drop_eq_nil_of_le (by omega)]; rfl
          have hpre := hOf.out (by omega)
          rw [if_neg (by omega)]
          replace hpre := Lib.hid hpre
          (repeat' (first | (with_reducible refine Cend.go ?_) | (with_reducible refine Step.mk True.intro ?_) | (with_reducible refine Step.mk ?_ ?_; focus (((try simp only [true_and, and_true, and_self, kmin, kmax, decide_eq_true_eq, decide_eq_false_iff_not, castD_self, castL_self, List.length_cons, List.length_nil, List.length_append, Int.natCast_add] at *) <;> omega))) | (with_reducible refine Step.mk ?_ ?_) | (with_reducible refine Way.t1 ?_) | (with_reducible refine Way.f1 ?_) | ((with_reducible refine Way.dec (fun zz => ?_) (fun zz => ?_)) <;> (try simp only [castD_self, castL_self] at zz) <;> try (exfalso; first | omega | contradiction)) | (with_reducible refine Way.nt ?_) | ((with_reducible refine Way.mk (fun _ => ?_) (fun _ => ?_)) <;> try (exfalso; rename_i hw; first | exact Bool.noConfusion ((Go.RowKit.Hid.out hf).symm.trans hw) | exact Bool.noConfusion (hw.symm.trans (Go.RowKit.Hid.out hf)))) | (with_reducible refine Drawn.mk (by kernel_rfl) ?_) | (refine Run.mk ?_)))
          · exact hpre.out
          · rename_i hx
            have hx : (ancB l g).getD b.toNat false = true := hx
            refine Ret.mk ?_
            rw [if_pos hx]
            exact rfl
          · rename_i hx
            have hx : (ancB l g).getD b.toNat false = false := hx
            refine Ret.mk ?_
            rw [if_neg (by rw [hx]; decide)]
            exact rfl

    · have e : bisF l g b = (6, -1) := (if_neg (Classical.not_not.2 h1)).trans (if_pos h2)
      rw [e]
      replace h1 := Lib.hid h1
      (refine fnM_of rfl rfl rfl rfl ?_; dsimp only [params, argAV, Ty.leaves, Ty.isSt])
      (repeat' (first | (with_reducible refine Cend.go ?_) | (with_reducible refine Step.mk True.intro ?_) | (with_reducible refine Step.mk ?_ ?_; focus (((try simp only [true_and, and_true, and_self, kmin, kmax, decide_eq_true_eq, decide_eq_false_iff_not, castD_self, castL_self, List.length_cons, List.length_nil, List.length_append, Int.natCast_add] at *) <;> omega))) | (with_reducible refine Step.mk ?_ ?_) | (with_reducible refine Way.t1 ?_) | (with_reducible refine Way.f1 ?_) | ((with_reducible refine Way.dec (fun zz => ?_) (fun zz => ?_)) <;> (try simp only [castD_self, castL_self] at zz) <;> try (exfalso; first | omega | contradiction)) | (with_reducible refine Way.nt ?_) | ((with_reducible refine Way.mk (fun _ => ?_) (fun _ => ?_)) <;> try (exfalso; rename_i hw; first | exact Bool.noConfusion ((Go.RowKit.Hid.out hf).symm.trans hw) | exact Bool.noConfusion (hw.symm.trans (Go.RowKit.Hid.out hf)))) | (with_reducible refine Drawn.mk (by kernel_rfl) ?_) | (refine Run.mk ?_)))
      exact Ret.mk rfl
  · have hf : (decide (hC l = 0) && decide (hI l = 0)) = false := by rw [decide_eq_false h1]; rfl
    replace hf := Lib.hid hf
    have e : bisF l g b = (hC l, hI l) := if_pos h1
    rw [e]
    replace h1 := Lib.hid h1
    (refine fnM_of rfl rfl rfl rfl ?_; dsimp only [params, argAV, Ty.leaves, Ty.isSt])
    (repeat' (first | (with_reducible refine Cend.go ?_) | (with_reducible refine Step.mk True.intro ?_) | (with_reducible refine Step.mk ?_ ?_; focus (((try simp only [true_and, and_true, and_self, kmin, kmax, decide_eq_true_eq, decide_eq_false_iff_not, castD_self, castL_self, List.length_cons, List.length_nil, List.length_append, Int.natCast_add] at *) <;> omega))) | (with_reducible refine Step.mk ?_ ?_) | (with_reducible refine Way.t1 ?_) | (with_reducible refine Way.f1 ?_) | ((with_reducible refine Way.dec (fun zz => ?_) (fun zz => ?_)) <;> (try simp only [castD_self, castL_self] at zz) <;> try (exfalso; first | omega | contradiction)) | (with_reducible refine Way.nt ?_) | ((with_reducible refine Way.mk (fun _ => ?_) (fun _ => ?_)) <;> try (exfalso; rename_i hw; first | exact Bool.noConfusion ((Go.RowKit.Hid.out hf).symm.trans hw) | exact Bool.noConfusion (hw.symm.trans (Go.RowKit.Hid.out hf)))) | (with_reducible refine Drawn.mk (by kernel_rfl) ?_) | (refine Run.mk ?_)))
    exact Ret.mk rfl
noncomputable def sp_bcand : SpecF := ownSp false [.slice tCm, .slice (.int .i64), .int .i64] 3 (.int .i64) (fun (l', g', b', _) => OfPre l' g' ∧ 0 ≤ b' ∧ b' < (List.length l' : Int)) (fun (l', g', b', _) => candP l' g' b')
theorem bcand_sp : SpFact 36 sp_bcand := by
  refine ⟨⟨Try.f36, rfl, rfl, rfl, ownSp_ok (env_fine (sp := [(46, sp_Of)]) (eq := []) ⟨Of_sp, True.intro⟩ True.intro) rfl (fun h => (by cases h)) ?_⟩, ownSp_loc _ _ _ _ _ _⟩
  rintro ⟨l, g, b, u⟩ - ⟨hp, hb⟩
  change List Cm at l
  change List Int at g
  change Int at b
  have hp : OfPre l g := hp
  have hb : 0 ≤ b ∧ b < (l.length : Int) := hb
  have hl := hC_len hp.1
  have hp2 : OfPre l [b] := ⟨hp.1, by simp, fun n hn => by rw [List.mem_singleton] at hn; rw [hn]; exact hb⟩
  have h1 : (ancB l g).length = l.length := ancB_len l g
  have h2 : (ancB l [b]).length = l.length := ancB_len l [b]
  replace hp := Lib.hid hp
  replace hp2 := Lib.hid hp2
  dsimp only
  (refine fnM_of rfl rfl rfl rfl ?_; dsimp only [params, argAV, Ty.leaves, Ty.isSt])
  (repeat' (first | (with_reducible refine Cend.go ?_) | (with_reducible refine Step.mk True.intro ?_) | (with_reducible refine Step.mk ?_ ?_; focus (((try simp only [true_and, and_true, and_self, kmin, kmax, decide_eq_true_eq, decide_eq_false_iff_not, castD_self, castL_self, List.length_cons, List.length_nil, List.length_append, Int.natCast_add] at *) <;> omega))) | (with_reducible refine Step.mk ?_ ?_) | (with_reducible refine Way.t1 ?_) | (with_reducible refine Way.f1 ?_) | ((with_reducible refine Way.dec (fun _ => ?_) (fun _ => ?_)) <;> try (exfalso; omega)) | (with_reducible refine Way.nt ?_) | (with_reducible refine Way.mk (fun _ => ?_) (fun _ => ?_)) | (with_reducible refine Drawn.mk (by kernel_rfl) ?_) | (refine Run.mk ?_)))
  · exact hp2.out
  refine loop_by (X := Nat) (fun x => [.put 7 (.v false [.o 13]), .put 8 (.v false [.o 91]), .put 17 (.v false [.o 17]), .put 18 (.v false [.d (.int .i64) (l.length : Int)]), .put 19 (.v false [.d (.int .i64) (x : Int)])])
    (fun x => [.put 13 (.row 4 .bool (ancB l g)), .put 17 (.row 4 .bool (ancB l [b])), .put 91 (.row 3 (.int .i64) (selK (minF (ancB l [b]) (ancB l g)) x))]) (fun x => x ≤ l.length) (fun x => l.length - x) 0 (Nat.zero_le _) ?_ ?_
  · refine Wk.trans (Wk.nilrow 8 91 3 (.int .i64) rfl) ?_
    (refine Wk.keep ?_ ?_ <;> repeat' (first | exact True.intro | refine And.intro rfl ?_ | refine And.intro (congrArg (fun z : Int => AV.v false [Lf.d (.int .i64) z]) (by first | omega | (simp only [Int.natCast_add, List.length_cons, List.length_append, List.length_nil]; omega))) ?_ | refine And.intro ?_ ?_))
    show AV.v false [Lf.d (.int .i64) ((ancB l [b]).length : Int)] = AV.v false [Lf.d (.int .i64) (l.length : Int)]
    rw [h2]
  unfold candP
  generalize ancB l [b] = A at *
  generalize ancB l g = B at *
  intro k hk
  by_cases hlt : k < l.length
  · have hlen := selK_len (minF A B) k
    have hst : selK (minF A B) (k + 1) = if A.getD k false && !B.getD k false then selK (minF A B) k ++ [(k : Int)] else selK (minF A B) k := rfl
    obtain ⟨r, hr⟩ : ∃ r, selK (minF A B) k = r := ⟨_, rfl⟩
    rw [hr] at hlen hst ⊢
    clear hr
    replace hst := Lib.hid hst
    (repeat' (first | (with_reducible refine Cend.go ?_) | (with_reducible refine Step.mk True.intro ?_) | (with_reducible refine Step.mk ?_ ?_; focus (((try simp only [true_and, and_true, and_self, kmin, kmax, decide_eq_true_eq, decide_eq_false_iff_not, castD_self, castL_self, List.length_cons, List.length_nil, List.length_append, Int.natCast_add] at *) <;> omega))) | (with_reducible refine Step.mk ?_ ?_) | (with_reducible refine Way.t1 ?_) | (with_reducible refine Way.f1 ?_) | ((with_reducible refine Way.dec (fun _ => ?_) (fun _ => ?_)) <;> try (exfalso; omega)) | (with_reducible refine Way.nt ?_) | (with_reducible refine Way.mk (fun _ => ?_) (fun _ => ?_)) | (with_reducible refine Drawn.mk (by kernel_rfl) ?_) | (refine Run.mk ?_)))
    · rename_i hx hy
      have hx : A.getD k false = true := hx
      have hy : B.getD k false = true := hy
      (refine Back.by (k + 1) ?_ ?_ ?_; focus (refine Wk.keep ?_ ?_ <;> repeat' (first | exact True.intro | refine And.intro rfl ?_ | refine And.intro (congrArg (fun z : Int => AV.v false [Lf.d (.int .i64) z]) (by first | omega | (simp only [Int.natCast_add, List.length_cons, List.length_append, List.length_nil]; omega))) ?_ | refine And.intro ?_ ?_)))
      · rw [hst.out, hx, hy, if_neg (by decide)]; exact rfl
      · exact hlt
      · show l.length - (k + 1) < l.length - k; omega
    · rename_i hx hy
      have hx : A.getD k false = true := hx
      have hy : B.getD k false = false := hy
      (refine Back.by (k + 1) ?_ ?_ ?_; focus (refine Wk.ren [(91, 35)] rfl ?_ ?_ <;> repeat' (first | exact True.intro | refine And.intro rfl ?_ | refine And.intro (congrArg (fun z : Int => AV.v false [Lf.d (.int .i64) z]) (by first | omega | (simp only [Int.natCast_add, List.length_cons, List.length_append, List.length_nil]; omega))) ?_ | refine And.intro ?_ ?_)))
      · rw [hst.out, hx, hy, if_pos (by decide)]; exact rfl
      · exact hlt
      · show l.length - (k + 1) < l.length - k; omega
    · rename_i hx
      have hx : A.getD k false = false := hx
      (refine Back.by (k + 1) ?_ ?_ ?_; focus (refine Wk.keep ?_ ?_ <;> repeat' (first | exact True.intro | refine And.intro rfl ?_ | refine And.intro (congrArg (fun z : Int => AV.v false [Lf.d (.int .i64) z]) (by first | omega | (simp only [Int.natCast_add, List.length_cons, List.length_append, List.length_nil]; omega))) ?_ | refine And.intro ?_ ?_)))
      · rw [hst.out, hx, Bool.false_and, if_neg (by decide)]; exact rfl
      · exact hlt
      · show l.length - (k + 1) < l.length - k; omega
  · have e : k = l.length := by omega
    subst e
    (repeat' (first | (with_reducible refine Cend.go ?_) | (with_reducible refine Step.mk True.intro ?_) | (with_reducible refine Step.mk ?_ ?_; focus (((try simp only [true_and, and_true, and_self, kmin, kmax, decide_eq_true_eq, decide_eq_false_iff_not, castD_self, castL_self, List.length_cons, List.length_nil, List.length_append, Int.natCast_add] at *) <;> omega))) | (with_reducible refine Step.mk ?_ ?_) | (with_reducible refine Way.t1 ?_) | (with_reducible refine Way.f1 ?_) | ((with_reducible refine Way.dec (fun _ => ?_) (fun _ => ?_)) <;> try (exfalso; omega)) | (with_reducible refine Way.nt ?_) | (with_reducible refine Way.mk (fun _ => ?_) (fun _ => ?_)) | (with_reducible refine Drawn.mk (by kernel_rfl) ?_) | (refine Run.mk ?_)))
    all_goals first | exact Ret.mk (.inl ⟨_, rfl, rfl⟩) | skip

def sp_BF : SpecF := pureSp false [.slice tCm, .slice (.int .i64), .int .i64] (fun (l', g', b', _) => bisOk l' g' b') (fun _ => .v true [.d (.int .i64) 0, .d (.int .i64) 0])
theorem BF_sp : SpFact 15 sp_BF := by
  refine ⟨⟨Try.f15, rfl, rfl, rfl, pureSp_ok (env_fine (sp := [(37, sp_HF), (9, sp_InT), (39, sp_Reach)]) (eq := []) ⟨HF_sp, InT_sp, Reach_sp, True.intro⟩ True.intro) rfl (fun _ _ => rfl) ?_⟩, pureSp_loc _ _ _ _⟩
  rintro ⟨l, g, b, u⟩ - hp
  change List Cm at l
  change List Int at g
  change Int at b
  have hp : bisOk l g b := hp
  obtain ⟨h1, ⟨b0, b1⟩, h2, h3, h4⟩ := hp
  have hl := hC_len h1
  have htl := tabR_len l l.length
  have hnot : ∀ m ∈ g, List.getD ((tabR l l.length).getD m.toNat []) b.toNat false = false := fun m hm => by
    obtain ⟨m0, m1⟩ := h3 m hm
    rw [tabR_at (by omega)]
    cases hc : (rowR l m.toNat).getD b.toNat false with
    | false => rfl
    | true =>
      have h5 : (ancB l g).getD b.toNat false = true := (setB_at (by omega)).2 ⟨m, hm, (rowR_at (by omega)).1 hc⟩
      rw [h4] at h5; cases h5
  have hrl : ∀ m ∈ g, List.length ((tabR l l.length).getD m.toNat []) = l.length := fun m hm => by
    obtain ⟨m0, m1⟩ := h3 m hm
    rw [tabR_at (by omega)]; exact rowR_len _ _
  replace h1 := Lib.hid h1
  replace h3 := Lib.hid h3
  replace hnot := Lib.hid hnot
  replace hrl := Lib.hid hrl
  clear h4
  (refine fnM_of rfl rfl rfl rfl ?_; dsimp only [params, argAV, Ty.leaves, Ty.isSt])
  (repeat' (first | (with_reducible refine Cend.go ?_) | (with_reducible refine Step.mk True.intro ?_) | (with_reducible refine Step.mk ?_ ?_; focus (((try simp only [true_and, and_true, and_self, kmin, kmax, decide_eq_true_eq, decide_eq_false_iff_not, castD_self, castL_self, List.length_cons, List.length_nil, List.length_append, Int.natCast_add] at *) <;> omega))) | (with_reducible refine Step.mk ?_ ?_) | (with_reducible refine Way.t1 ?_) | (with_reducible refine Way.f1 ?_) | ((with_reducible refine Way.dec (fun _ => ?_) (fun _ => ?_)) <;> try (exfalso; omega)) | (with_reducible refine Way.nt ?_) | (with_reducible refine Way.mk (fun _ => ?_) (fun _ => ?_)) | (with_reducible refine Drawn.mk (by kernel_rfl) ?_) | (refine Run.mk ?_)))
  · exact h1.out
  · show (0 : Int) ≤ b ∧ b ≤ (l.length : Int) - 1; omega
  refine loop_by (X := Nat) (fun x => [.put 0 (.v false [.d (.slice tCm) l]), .put 1 (.v false [.d (.slice (.int .i64)) g]), .put 2 (.v false [.d (.int .i64) b]), .put 6 (.v false [.p 6 0]), .put 8 (.v false [.d (.int .i64) (x : Int)])])
    (fun x => [.put 6 (.box 24 [.d (.int .i64) 0, .d (.int .i64) 0])]) (fun x => x ≤ g.length) (fun x => g.length - x) 0 (Nat.zero_le _) ?_ ?_
  · (refine Wk.keep ?_ ?_ <;> repeat' (first | exact True.intro | refine And.intro rfl ?_ | refine And.intro (congrArg (fun z : Int => AV.v false [Lf.d (.int .i64) z]) (by first | omega | (simp only [Int.natCast_add, List.length_cons, List.length_append, List.length_nil]; omega))) ?_ | refine And.intro ?_ ?_))
  intro k hk
  by_cases hlt : k < g.length
  · have hg : g.getD ((k : Int)).toNat (Ty.int .i64).dflt = g[k] := getD_of _ hlt
    obtain ⟨m0, m1⟩ := h3.out _ (List.getElem_mem hlt)
    rw [← hg] at m0 m1
    clear hg
    (repeat' (first | (with_reducible refine Cend.go ?_) | (with_reducible refine Step.mk True.intro ?_) | (with_reducible refine Step.mk ?_ ?_; focus (((try simp only [true_and, and_true, and_self, kmin, kmax, decide_eq_true_eq, decide_eq_false_iff_not, castD_self, castL_self, List.length_cons, List.length_nil, List.length_append, Int.natCast_add] at *) <;> omega))) | (with_reducible refine Step.mk ?_ ?_) | (with_reducible refine Way.t1 ?_) | (with_reducible refine Way.f1 ?_) | ((with_reducible refine Way.dec (fun _ => ?_) (fun _ => ?_)) <;> try (exfalso; omega)) | (with_reducible refine Way.nt ?_) | (with_reducible refine Way.mk (fun _ => ?_) (fun _ => ?_)) | (with_reducible refine Drawn.mk (by kernel_rfl) ?_) | (refine Run.mk ?_)))
    · show (0 : Int) ≤ g.getD ((k : Int)).toNat (Ty.int .i64).dflt ∧ g.getD ((k : Int)).toNat (Ty.int .i64).dflt ≤ (l.length : Int) - 1; omega
    · (refine Back.by (k + 1) ?_ ?_ ?_; focus (refine Wk.keep ?_ ?_ <;> repeat' (first | exact True.intro | refine And.intro rfl ?_ | refine And.intro (congrArg (fun z : Int => AV.v false [Lf.d (.int .i64) z]) (by first | omega | (simp only [Int.natCast_add, List.length_cons, List.length_append, List.length_nil]; omega))) ?_ | refine And.intro ?_ ?_)))
      · exact hlt
      · show g.length - (k + 1) < g.length - k; omega
  · (repeat' (first | (with_reducible refine Cend.go ?_) | (with_reducible refine Step.mk True.intro ?_) | (with_reducible refine Step.mk ?_ ?_; focus (((try simp only [true_and, and_true, and_self, kmin, kmax, decide_eq_true_eq, decide_eq_false_iff_not, castD_self, castL_self, List.length_cons, List.length_nil, List.length_append, Int.natCast_add] at *) <;> omega))) | (with_reducible refine Step.mk ?_ ?_) | (with_reducible refine Way.t1 ?_) | (with_reducible refine Way.f1 ?_) | ((with_reducible refine Way.dec (fun _ => ?_) (fun _ => ?_)) <;> try (exfalso; omega)) | (with_reducible refine Way.nt ?_) | (with_reducible refine Way.mk (fun _ => ?_) (fun _ => ?_)) | (with_reducible refine Drawn.mk (by kernel_rfl) ?_) | (refine Run.mk ?_)))
    · exact h1.out
    refine loop_by (X := Nat) (fun x => [.put 0 (.v false [.d (.slice tCm) l]), .put 1 (.v false [.d (.slice (.int .i64)) g]), .put 2 (.v false [.d (.int .i64) b]), .put 6 (.v false [.p 6 0]), .put 9 (.v false [.o 46]), .put 10 (.v false [.d (.int .i64) (x : Int)])])
      (fun x => [.put 6 (.box 24 [.d (.int .i64) 0, .d (.int .i64) 0]), .put 46 (.row 51 (.slice .bool) (tabR l l.length))]) (fun x => x ≤ g.length) (fun x => g.length - x) 0 (Nat.zero_le _) ?_ ?_
    · (refine Wk.keep ?_ ?_ <;> repeat' (first | exact True.intro | refine And.intro rfl ?_ | refine And.intro (congrArg (fun z : Int => AV.v false [Lf.d (.int .i64) z]) (by first | omega | (simp only [Int.natCast_add, List.length_cons, List.length_append, List.length_nil]; omega))) ?_ | refine And.intro ?_ ?_))
    generalize tabR l l.length = T at *
    intro k hk
    by_cases hlt : k < g.length
    · have hg : g.getD ((k : Int)).toNat (Ty.int .i64).dflt = g[k] := getD_of _ hlt
      obtain ⟨m0, m1⟩ := h3.out _ (List.getElem_mem hlt)
      have hn := hnot.out _ (List.getElem_mem hlt)
      have hr := hrl.out _ (List.getElem_mem hlt)
      rw [← hg] at m0 m1 hn hr
      have hr : List.length (T.getD (Int.toNat (g.getD ((k : Int)).toNat (Ty.int .i64).dflt)) (Ty.slice .bool).dflt) = l.length := hr
      have hn : List.getD (T.getD (Int.toNat (g.getD ((k : Int)).toNat (Ty.int .i64).dflt)) (Ty.slice .bool).dflt) b.toNat Ty.bool.dflt = false := hn
      replace hn := Lib.hid hn
      clear hg
      (repeat' (first | (with_reducible refine Cend.go ?_) | (with_reducible refine Step.mk True.intro ?_) | (with_reducible refine Step.mk ?_ ?_; focus (((try simp only [true_and, and_true, and_self, kmin, kmax, decide_eq_true_eq, decide_eq_false_iff_not, castD_self, castL_self, List.length_cons, List.length_nil, List.length_append, Int.natCast_add] at *) <;> omega))) | (with_reducible refine Step.mk ?_ ?_) | (with_reducible refine Way.t1 ?_) | (with_reducible refine Way.f1 ?_) | ((with_reducible refine Way.dec (fun _ => ?_) (fun _ => ?_)) <;> try (exfalso; omega)) | (with_reducible refine Way.nt ?_) | ((with_reducible refine Way.mk (fun _ => ?_) (fun _ => ?_)) <;> try (exfalso; rename_i hw; first | exact Bool.noConfusion ((Go.RowKit.Hid.out hn).symm.trans hw) | exact Bool.noConfusion (hw.symm.trans (Go.RowKit.Hid.out hn)))) | (with_reducible refine Drawn.mk (by kernel_rfl) ?_) | (refine Run.mk ?_)))
      (refine Back.by (k + 1) ?_ ?_ ?_; focus (refine Wk.keep ?_ ?_ <;> repeat' (first | exact True.intro | refine And.intro rfl ?_ | refine And.intro (congrArg (fun z : Int => AV.v false [Lf.d (.int .i64) z]) (by first | omega | (simp only [Int.natCast_add, List.length_cons, List.length_append, List.length_nil]; omega))) ?_ | refine And.intro ?_ ?_)))
      · exact hlt
      · show g.length - (k + 1) < g.length - k; omega
    · (repeat' (first | (with_reducible refine Cend.go ?_) | (with_reducible refine Step.mk True.intro ?_) | (with_reducible refine Step.mk ?_ ?_; focus (((try simp only [true_and, and_true, and_self, kmin, kmax, decide_eq_true_eq, decide_eq_false_iff_not, castD_self, castL_self, List.length_cons, List.length_nil, List.length_append, Int.natCast_add] at *) <;> omega))) | (with_reducible refine Step.mk ?_ ?_) | (with_reducible refine Way.t1 ?_) | (with_reducible refine Way.f1 ?_) | ((with_reducible refine Way.dec (fun _ => ?_) (fun _ => ?_)) <;> try (exfalso; omega)) | (with_reducible refine Way.nt ?_) | (with_reducible refine Way.mk (fun _ => ?_) (fun _ => ?_)) | (with_reducible refine Drawn.mk (by kernel_rfl) ?_) | (refine Run.mk ?_)))
      exact Ret.mk rfl
end Go.Proofs.Ytgdlbpihkodeoaa
