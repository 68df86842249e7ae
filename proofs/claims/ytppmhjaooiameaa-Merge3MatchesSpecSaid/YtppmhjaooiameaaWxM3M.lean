/- The walk of the reference's variant. -/
import Derived.Test.YtppmhjaooiameaaWxM3L
namespace Go.Proofs.Ytppmhjaooiameaa
open Go.RowKit
set_option maxRecDepth 10000
set_option linter.unusedSimpArgs false

def sp_variant : SpecF := pureSp false [.slice .str, tPat, .int .i64, .int .i64] (fun (b', p', lo', hi', _) => b'.length ≤ 120 ∧ ((∀ h ∈ p', HkOk h) ∧ p'.length ≤ 130) ∧ 0 ≤ lo' ∧ lo' ≤ hi' ∧ hi' ≤ b'.length) (fun (b', p', lo', hi', _) => .tu [(false, [.d (.slice .str) (vT b' p' hi' (hi' - lo' + 1).toNat lo')]), (false, [.d .bool (vA p' lo' (hi' + 1))])])
set_option maxHeartbeats 1000000 in
theorem variant_sp : SpFact 37 sp_variant := by
  refine ⟨⟨Try.f37, rfl, rfl, rfl, pureSp_okF (env_fine (sp := [(63, sp_GEnd)]) (eq := []) ⟨GEnd_sp, True.intro⟩ True.intro) rfl (fun ⟨_, _, _, _, _⟩ _ => rfl) ?_⟩, pureSp_loc _ _ _ _⟩
  rintro ⟨b, p, lo, hi, u⟩ - ⟨hb, ⟨hp, hpl⟩, h0, h1, h2⟩
  change List Hk at p
  change List ByteArray at b
  change Int at lo hi
  replace hb : b.length ≤ 120 := hb
  replace hpl : p.length ≤ 130 := hpl
  replace hp : ∀ h ∈ p, HkOk h := hp
  replace h0 : 0 ≤ lo := h0
  replace h1 : lo ≤ hi := h1
  replace h2 : hi ≤ b.length := h2
  have hvl : ∀ (i : Nat) (k : Int), (vS (p.take i) k).length ≤ 15600 := fun i k => by
    have := vS_len (p := p.take i) (fun h hh => hp h (List.mem_of_mem_take hh)) k
    rw [List.length_take] at this
    omega
  replace hp := Lib.hid hp
  replace hvl := Lib.hid hvl
  obtain ⟨m0, hm0⟩ : ∃ m0, (hi - lo + 1).toNat = m0 := ⟨_, rfl⟩
  dsimp only
  rw [hm0]
  have hm0 : (m0 : Int) = hi - lo + 1 := by omega
  (refine fnM_of rfl rfl rfl rfl ?_; dsimp only [params, argAV, Ty.leaves, Ty.isSt])
  (repeat' (first | (with_reducible refine Cend.go ?_) | (with_reducible refine Step.mk True.intro ?_) | (with_reducible refine Step.mk ?_ ?_; focus (((try simp only [true_and, and_true, and_self, kmin, kmax, decide_eq_true_eq, decide_eq_false_iff_not, castD_self, castL_self, List.length_cons, List.length_nil, List.length_append, Int.natCast_add] at *) <;> omega))) | (with_reducible refine Step.mk ?_ ?_) | (with_reducible refine Way.t1 ?_) | (with_reducible refine Way.f1 ?_) | ((with_reducible refine Way.dec (fun _ => ?_) (fun _ => ?_)) <;> try (exfalso; omega)) | (with_reducible refine Way.nt ?_) | (with_reducible refine Way.mk (fun _ => ?_) (fun _ => ?_)) | (with_reducible refine Drawn.mk (by kernel_rfl) ?_) | (refine Run.mk ?_)))
  refine loop_by (X := Nat × List ByteArray × Bool) (fun x => [.put 0 (.v false [.d (.slice .str) b]), .put 3 (.v false [.d (.int .i64) hi]), .put 5 (.v false [.p 5 0]), .put 10 (.v false [.o 91]), .put 11 (.v false [.d .bool x.2.2]), .put 12 (.v false [.d (.int .i64) (lo + (x.1 : Int))])])
    (fun x => [.put 5 (.box 44 [.d (.slice tHk) p]), .put 91 (.row 9 .str x.2.1)]) (fun x => x.1 ≤ m0 ∧ vT b p hi m0 lo = x.2.1 ++ vT b p hi (m0 - x.1) (lo + (x.1 : Int)) ∧ x.2.2 = vA p lo (lo + (x.1 : Int)) ∧ x.2.1.length ≤ 20000 * x.1) (fun x => m0 - x.1) (0, [], false) ⟨Nat.zero_le _, ?_, ?_, Nat.le_refl _⟩ ?_ ?_
  · show _ = vT b p hi (m0 - 0) (lo + ((0 : Nat) : Int))
    rw [show lo + ((0 : Nat) : Int) = lo by omega]; rfl
  · show false = vA p lo (lo + ((0 : Nat) : Int))
    rw [show lo + ((0 : Nat) : Int) = lo by omega, vA_start]
  · rw [show lo + ((0 : Nat) : Int) = lo by omega]
    refine (Wk.nilrow 10 91 9 .str rfl).trans ?_
    (refine Wk.keep ?_ ?_ <;> repeat' (first | exact True.intro | refine And.intro rfl ?_ | refine And.intro (congrArg (fun z : Int => AV.v false [Lf.d (.int .i64) z]) (by first | omega | (simp only [Int.natCast_add, List.length_cons, List.length_append, List.length_nil]; omega))) ?_ | refine And.intro ?_ ?_))
  rintro ⟨x, M, a⟩ ⟨hx, hT, ha, hM⟩
  dsimp only at hx hT ha hM ⊢
  by_cases hxt : x < m0
  · have hvk := hvl.out p.length (lo + (x : Int))
    rw [List.take_length] at hvk
    replace hT := Lib.hid hT
    replace ha := Lib.hid ha
    (repeat' (first | (with_reducible refine Cend.go ?_) | (with_reducible refine Step.mk True.intro ?_) | (with_reducible refine Step.mk ?_ ?_; focus (((try simp only [true_and, and_true, and_self, kmin, kmax, decide_eq_true_eq, decide_eq_false_iff_not, castD_self, castL_self, List.length_cons, List.length_nil, List.length_append, Int.natCast_add] at *) <;> omega))) | (with_reducible refine Step.mk ?_ ?_) | (with_reducible refine Way.t1 ?_) | (with_reducible refine Way.f1 ?_) | ((with_reducible refine Way.dec (fun _ => ?_) (fun _ => ?_)) <;> try (exfalso; omega)) | (with_reducible refine Way.nt ?_) | (with_reducible refine Way.mk (fun _ => ?_) (fun _ => ?_)) | (with_reducible refine Drawn.mk (by kernel_rfl) ?_) | (refine Run.mk ?_)))
    refine loop_by (X := Nat × List ByteArray × Bool) (fun y => [.put 0 (.v false [.d (.slice .str) b]), .put 3 (.v false [.d (.int .i64) hi]), .put 5 (.v false [.p 5 0]), .put 10 (.v false [.o 91]), .put 11 (.v false [.d .bool y.2.2]), .put 12 (.v false [.d (.int .i64) (lo + (x : Int))]), .put 13 (.v false [.d (.int .i64) (y.1 : Int)])])
      (fun y => [.put 5 (.box 44 [.d (.slice tHk) p]), .put 91 (.row 9 .str y.2.1)]) (fun y => y.1 ≤ p.length ∧ y.2.1 = M ++ vS (p.take y.1) (lo + (x : Int)) ∧ y.2.2 = (a || atB (p.take y.1) (lo + (x : Int)))) (fun y => p.length - y.1) (0, M, a) ⟨Nat.zero_le _, (List.append_nil M).symm, (Bool.or_false a).symm⟩ ?_ ?_
    · (refine Wk.keep ?_ ?_ <;> repeat' (first | exact True.intro | refine And.intro rfl ?_ | refine And.intro (congrArg (fun z : Int => AV.v false [Lf.d (.int .i64) z]) (by first | omega | (simp only [Int.natCast_add, List.length_cons, List.length_append, List.length_nil]; omega))) ?_ | refine And.intro ?_ ?_))
    rintro ⟨i, N, a2⟩ ⟨hi', hN, ha2⟩
    dsimp only at hi' hN ha2 ⊢
    by_cases hit : i < p.length
    · have hg := getD_at (a := p) tHk.dflt hit
      have ho := hp.out p[i] (List.getElem_mem hit)
      have hNl : N.length ≤ 20000 * x + 15600 := by have := hvl.out i (lo + (x : Int)); rw [hN, List.length_append]; omega
      have hs := vS_take hit (lo + (x : Int))
      have hat := atB_take hit (lo + (x : Int))
      rw [← hg] at ho hs hat
      replace hg := Lib.hid hg
      obtain ⟨-, -, -, ho4⟩ := ho
      replace hs := Lib.hid hs
      replace hat := Lib.hid hat
      replace hN := Lib.hid hN
      replace ha2 := Lib.hid ha2
      (repeat' (first | (with_reducible refine Cend.go ?_) | (with_reducible refine Step.mk True.intro ?_) | (with_reducible refine Step.mk ?_ ?_; focus (((try simp only [true_and, and_true, and_self, kmin, kmax, decide_eq_true_eq, decide_eq_false_iff_not, castD_self, castL_self, List.length_cons, List.length_nil, List.length_append, Int.natCast_add] at *) <;> omega))) | (with_reducible refine Step.mk ?_ ?_) | (with_reducible refine Way.t1 ?_) | (with_reducible refine Way.f1 ?_) | ((with_reducible refine Way.dec (fun _ => ?_) (fun _ => ?_)) <;> try (exfalso; omega)) | (with_reducible refine Way.nt ?_) | (with_reducible refine Way.mk (fun _ => ?_) (fun _ => ?_)) | (with_reducible refine Drawn.mk (by kernel_rfl) ?_) | (refine Run.mk ?_)))
      · rename_i zq
        refine Back.by (i + 1, N ++ (p.getD ((i : Int)).toNat tHk.dflt).2.2, true) ?_ ?_ ?_
        · (refine Wk.ren [(91, 44)] rfl ?_ ?_ <;> repeat' (first | exact True.intro | refine And.intro rfl ?_ | refine And.intro (congrArg (fun z : Int => AV.v false [Lf.d (.int .i64) z]) (by first | omega | (simp only [Int.natCast_add, List.length_cons, List.length_append, List.length_nil]; omega))) ?_ | refine And.intro ?_ ?_))
        · refine ⟨hit, ?_, ?_⟩
          · dsimp only
            rw [hs.out, if_pos zq, hN.out, List.append_assoc]
          · dsimp only
            rw [hat.out, decide_eq_true zq, Bool.or_true, Bool.or_true]
        · show p.length - (i + 1) < p.length - i; omega
      · rename_i zq
        refine Back.by (i + 1, N, a2) ?_ ?_ ?_
        · (refine Wk.keep ?_ ?_ <;> repeat' (first | exact True.intro | refine And.intro rfl ?_ | refine And.intro (congrArg (fun z : Int => AV.v false [Lf.d (.int .i64) z]) (by first | omega | (simp only [Int.natCast_add, List.length_cons, List.length_append, List.length_nil]; omega))) ?_ | refine And.intro ?_ ?_))
        · refine ⟨hit, ?_, ?_⟩
          · dsimp only
            rw [hs.out, if_neg zq, List.append_nil, hN.out]
          · dsimp only
            rw [hat.out, decide_eq_false zq, Bool.or_false, ha2.out]
        · show p.length - (i + 1) < p.length - i; omega
    · rw [List.take_of_length_le (by omega)] at hN ha2
      have hNl : N.length ≤ 20000 * x + 15600 := by rw [hN, List.length_append]; omega
      replace hN := Lib.hid hN
      replace ha2 := Lib.hid ha2
      (repeat' (first | (with_reducible refine Cend.go ?_) | (with_reducible refine Step.mk True.intro ?_) | (with_reducible refine Step.mk ?_ ?_; focus (((try simp only [true_and, and_true, and_self, kmin, kmax, decide_eq_true_eq, decide_eq_false_iff_not, castD_self, castL_self, List.length_cons, List.length_nil, List.length_append, Int.natCast_add] at *) <;> omega))) | (with_reducible refine Step.mk ?_ ?_) | (with_reducible refine Way.t1 ?_) | (with_reducible refine Way.f1 ?_) | ((with_reducible refine Way.dec (fun _ => ?_) (fun _ => ?_)) <;> try (exfalso; omega)) | (with_reducible refine Way.nt ?_) | (with_reducible refine Way.mk (fun _ => ?_) (fun _ => ?_)) | (with_reducible refine Drawn.mk (by kernel_rfl) ?_) | (refine Run.mk ?_)))
      refine loop_by (X := Nat × Bool) (fun y => [.put 0 (.v false [.d (.slice .str) b]), .put 3 (.v false [.d (.int .i64) hi]), .put 5 (.v false [.p 5 0]), .put 10 (.v false [.o 91]), .put 11 (.v false [.d .bool a2]), .put 12 (.v false [.d (.int .i64) (lo + (x : Int))]), .put 14 (.v false [.d .bool y.2]), .put 15 (.v false [.d (.int .i64) (y.1 : Int)])])
        (fun y => [.put 5 (.box 44 [.d (.slice tHk) p]), .put 91 (.row 9 .str N)]) (fun y => y.1 ≤ p.length ∧ y.2 = gCov (p.take y.1) (lo + (x : Int))) (fun y => p.length - y.1) (0, false) ⟨Nat.zero_le _, rfl⟩ ?_ ?_
      · (refine Wk.keep ?_ ?_ <;> repeat' (first | exact True.intro | refine And.intro rfl ?_ | refine And.intro (congrArg (fun z : Int => AV.v false [Lf.d (.int .i64) z]) (by first | omega | (simp only [Int.natCast_add, List.length_cons, List.length_append, List.length_nil]; omega))) ?_ | refine And.intro ?_ ?_))
      rintro ⟨j, g⟩ ⟨hj, hgv⟩
      dsimp only at hj hgv ⊢
      by_cases hjt : j < p.length
      · have hg := getD_at (a := p) tHk.dflt hjt
        have ho := hp.out p[j] (List.getElem_mem hjt)
        have hct := gCov_take hjt (lo + (x : Int))
        rw [← hg] at ho hct
        replace hg := Lib.hid hg
        obtain ⟨e1, e2, e3⟩ := ho.e
        replace ho := Lib.hid ho
        replace hct := Lib.hid hct
        replace hgv := Lib.hid hgv
        (repeat' (first | (with_reducible refine Cend.go ?_) | (with_reducible refine Step.mk True.intro ?_) | (with_reducible refine Step.mk ?_ ?_; focus (((try simp only [true_and, and_true, and_self, kmin, kmax, decide_eq_true_eq, decide_eq_false_iff_not, castD_self, castL_self, List.length_cons, List.length_nil, List.length_append, Int.natCast_add] at *) <;> omega))) | (with_reducible refine Step.mk ?_ ?_) | (with_reducible refine Way.t1 ?_) | (with_reducible refine Way.f1 ?_) | ((with_reducible refine Way.dec (fun _ => ?_) (fun _ => ?_)) <;> try (exfalso; omega)) | (with_reducible refine Way.nt ?_) | (with_reducible refine Way.mk (fun _ => ?_) (fun _ => ?_)) | (with_reducible refine Drawn.mk (by kernel_rfl) ?_) | (refine Run.mk ?_)))
        · exact ho.out
        · rename_i z1 z2
          refine Back.by (j + 1, true) ?_ ?_ ?_
          · (refine Wk.keep ?_ ?_ <;> repeat' (first | exact True.intro | refine And.intro rfl ?_ | refine And.intro (congrArg (fun z : Int => AV.v false [Lf.d (.int .i64) z]) (by first | omega | (simp only [Int.natCast_add, List.length_cons, List.length_append, List.length_nil]; omega))) ?_ | refine And.intro ?_ ?_))
          · refine ⟨hjt, ?_⟩
            dsimp only
            rw [hct.out, decide_eq_true (show (p.getD ((j : Int)).toNat tHk.dflt).1 ≤ lo + (x : Int) from z1), decide_eq_true (show lo + (x : Int) < hkEnd (p.getD ((j : Int)).toNat tHk.dflt) from z2)]
            simp
          · show p.length - (j + 1) < p.length - j; omega
        · rename_i z1 z2
          refine Back.by (j + 1, g) ?_ ?_ ?_
          · (refine Wk.keep ?_ ?_ <;> repeat' (first | exact True.intro | refine And.intro rfl ?_ | refine And.intro (congrArg (fun z : Int => AV.v false [Lf.d (.int .i64) z]) (by first | omega | (simp only [Int.natCast_add, List.length_cons, List.length_append, List.length_nil]; omega))) ?_ | refine And.intro ?_ ?_))
          · refine ⟨hjt, ?_⟩
            dsimp only
            rw [hct.out, decide_eq_false (show ¬ lo + (x : Int) < hkEnd (p.getD ((j : Int)).toNat tHk.dflt) from z2), Bool.and_false, Bool.or_false, hgv.out]
          · show p.length - (j + 1) < p.length - j; omega
        · rename_i z1
          refine Back.by (j + 1, g) ?_ ?_ ?_
          · (refine Wk.keep ?_ ?_ <;> repeat' (first | exact True.intro | refine And.intro rfl ?_ | refine And.intro (congrArg (fun z : Int => AV.v false [Lf.d (.int .i64) z]) (by first | omega | (simp only [Int.natCast_add, List.length_cons, List.length_append, List.length_nil]; omega))) ?_ | refine And.intro ?_ ?_))
          · refine ⟨hjt, ?_⟩
            dsimp only
            rw [hct.out, decide_eq_false z1, Bool.false_and, Bool.or_false, hgv.out]
          · show p.length - (j + 1) < p.length - j; omega
      · rw [List.take_of_length_le (by omega)] at hgv
        have hA : vA p lo (lo + ((x + 1 : Nat) : Int)) = a2 := by
          rw [show lo + ((x + 1 : Nat) : Int) = (lo + (x : Int)) + 1 by omega, vA_step p (by omega), ← ha.out, ha2.out]
        have hT2 : vT b p hi m0 lo = (N ++ (if lo + (x : Int) < hi ∧ g = false then [b.getD (lo + (x : Int)).toNat Ty.str.dflt] else [])) ++ vT b p hi (m0 - (x + 1)) (lo + ((x + 1 : Nat) : Int)) := by
          rw [hT.out, hN.out, hgv, show m0 - x = (m0 - (x + 1)) + 1 by omega, show lo + ((x + 1 : Nat) : Int) = (lo + (x : Int)) + 1 by omega]
          show M ++ ((vS p (lo + (x : Int)) ++ _) ++ vT b p hi (m0 - (x + 1)) (lo + (x : Int) + 1)) = _
          simp only [List.append_assoc]
          rfl
        replace hT2 := Lib.hid hT2
        replace hA := Lib.hid hA
        replace hgv := Lib.hid hgv
        by_cases hlt : lo + (x : Int) < hi
        · cases hgb : g
          · have hT3 := hT2.out
            rw [if_pos ⟨hlt, hgb⟩] at hT3
            replace hT3 := Lib.hid hT3
            replace hgb := Lib.hid hgb
            (repeat' (first | (with_reducible refine Cend.go ?_) | (with_reducible refine Step.mk True.intro ?_) | (with_reducible refine Step.mk ?_ ?_; focus (((try simp only [true_and, and_true, and_self, kmin, kmax, decide_eq_true_eq, decide_eq_false_iff_not, castD_self, castL_self, List.length_cons, List.length_nil, List.length_append, Int.natCast_add] at *) <;> omega))) | (with_reducible refine Step.mk ?_ ?_) | (with_reducible refine Way.t1 ?_) | (with_reducible refine Way.f1 ?_) | ((with_reducible refine Way.dec (fun _ => ?_) (fun _ => ?_)) <;> try (exfalso; omega)) | (with_reducible refine Way.nt ?_) | (with_reducible refine Way.mk (fun _ => ?_) (fun _ => ?_)) | (with_reducible refine Drawn.mk (by kernel_rfl) ?_) | (refine Run.mk ?_)))
            refine Back.by (x + 1, N ++ [b.getD (lo + (x : Int)).toNat Ty.str.dflt], a2) ?_ ?_ ?_
            · rw [show lo + ((x + 1 : Nat) : Int) = lo + (x : Int) + 1 by omega]
              (refine Wk.ren [(91, 83)] rfl ?_ ?_ <;> repeat' (first | exact True.intro | refine And.intro rfl ?_ | refine And.intro (congrArg (fun z : Int => AV.v false [Lf.d (.int .i64) z]) (by first | omega | (simp only [Int.natCast_add, List.length_cons, List.length_append, List.length_nil]; omega))) ?_ | refine And.intro ?_ ?_))
            · refine ⟨hxt, hT3.out, hA.out.symm, ?_⟩
              show (N ++ [_]).length ≤ 20000 * (x + 1)
              rw [List.length_append, List.length_singleton]; omega
            · show m0 - (x + 1) < m0 - x; omega
          · have hT3 := hT2.out
            rw [if_neg (fun z => by rw [hgb] at z; cases z.2), List.append_nil] at hT3
            replace hT3 := Lib.hid hT3
            replace hgb := Lib.hid hgb
            (repeat' (first | (with_reducible refine Cend.go ?_) | (with_reducible refine Step.mk True.intro ?_) | (with_reducible refine Step.mk ?_ ?_; focus (((try simp only [true_and, and_true, and_self, kmin, kmax, decide_eq_true_eq, decide_eq_false_iff_not, castD_self, castL_self, List.length_cons, List.length_nil, List.length_append, Int.natCast_add] at *) <;> omega))) | (with_reducible refine Step.mk ?_ ?_) | (with_reducible refine Way.t1 ?_) | (with_reducible refine Way.f1 ?_) | ((with_reducible refine Way.dec (fun _ => ?_) (fun _ => ?_)) <;> try (exfalso; omega)) | (with_reducible refine Way.nt ?_) | (with_reducible refine Way.mk (fun _ => ?_) (fun _ => ?_)) | (with_reducible refine Drawn.mk (by kernel_rfl) ?_) | (refine Run.mk ?_)))
            refine Back.by (x + 1, N, a2) ?_ ?_ ?_
            · rw [show lo + ((x + 1 : Nat) : Int) = lo + (x : Int) + 1 by omega]
              (refine Wk.keep ?_ ?_ <;> repeat' (first | exact True.intro | refine And.intro rfl ?_ | refine And.intro (congrArg (fun z : Int => AV.v false [Lf.d (.int .i64) z]) (by first | omega | (simp only [Int.natCast_add, List.length_cons, List.length_append, List.length_nil]; omega))) ?_ | refine And.intro ?_ ?_))
            · refine ⟨hxt, hT3.out, hA.out.symm, ?_⟩
              show N.length ≤ 20000 * (x + 1)
              omega
            · show m0 - (x + 1) < m0 - x; omega
        · have hT3 := hT2.out
          rw [if_neg (fun z => hlt z.1), List.append_nil] at hT3
          replace hT3 := Lib.hid hT3
          (repeat' (first | (with_reducible refine Cend.go ?_) | (with_reducible refine Step.mk True.intro ?_) | (with_reducible refine Step.mk ?_ ?_; focus (((try simp only [true_and, and_true, and_self, kmin, kmax, decide_eq_true_eq, decide_eq_false_iff_not, castD_self, castL_self, List.length_cons, List.length_nil, List.length_append, Int.natCast_add] at *) <;> omega))) | (with_reducible refine Step.mk ?_ ?_) | (with_reducible refine Way.t1 ?_) | (with_reducible refine Way.f1 ?_) | ((with_reducible refine Way.dec (fun _ => ?_) (fun _ => ?_)) <;> try (exfalso; omega)) | (with_reducible refine Way.nt ?_) | (with_reducible refine Way.mk (fun _ => ?_) (fun _ => ?_)) | (with_reducible refine Drawn.mk (by kernel_rfl) ?_) | (refine Run.mk ?_)))
          refine Back.by (x + 1, N, a2) ?_ ?_ ?_
          · rw [show lo + ((x + 1 : Nat) : Int) = lo + (x : Int) + 1 by omega]
            (refine Wk.keep ?_ ?_ <;> repeat' (first | exact True.intro | refine And.intro rfl ?_ | refine And.intro (congrArg (fun z : Int => AV.v false [Lf.d (.int .i64) z]) (by first | omega | (simp only [Int.natCast_add, List.length_cons, List.length_append, List.length_nil]; omega))) ?_ | refine And.intro ?_ ?_))
          · refine ⟨hxt, hT3.out, hA.out.symm, ?_⟩
            show N.length ≤ 20000 * (x + 1)
            omega
          · show m0 - (x + 1) < m0 - x; omega
  · have ex : x = m0 := by omega
    subst ex
    rw [Nat.sub_self] at hT
    have hT : vT b p hi x lo = M := hT.trans (List.append_nil M)
    have ha : vA p lo (hi + 1) = a := by rw [ha, show lo + (x : Int) = hi + 1 by omega]
    rw [hT, ha]
    clear hT ha
    (repeat' (first | (with_reducible refine Cend.go ?_) | (with_reducible refine Step.mk True.intro ?_) | (with_reducible refine Step.mk ?_ ?_; focus (((try simp only [true_and, and_true, and_self, kmin, kmax, decide_eq_true_eq, decide_eq_false_iff_not, castD_self, castL_self, List.length_cons, List.length_nil, List.length_append, Int.natCast_add] at *) <;> omega))) | (with_reducible refine Step.mk ?_ ?_) | (with_reducible refine Way.t1 ?_) | (with_reducible refine Way.f1 ?_) | ((with_reducible refine Way.dec (fun _ => ?_) (fun _ => ?_)) <;> try (exfalso; omega)) | (with_reducible refine Way.nt ?_) | (with_reducible refine Way.mk (fun _ => ?_) (fun _ => ?_)) | (with_reducible refine Drawn.mk (by kernel_rfl) ?_) | (refine Run.mk ?_)))
    refine Ret.mk ?_
    exact ⟨⟨rfl, .frz rfl, True.intro⟩, ⟨rfl, .same, True.intro⟩, True.intro⟩
end Go.Proofs.Ytppmhjaooiameaa
