/- The walks of history: check, Validate. -/
import Derived.Test.YtgdlbpihkodeoaaEqF
import Derived.Test.YtgdlbpihkodeoaaHiPure
import Derived.Test.YtgdlbpihkodeoaaWkMore
namespace Go.Proofs.Ytgdlbpihkodeoaa
open Go.RowKit
set_option maxRecDepth 10000
set_option linter.unusedSimpArgs false

theorem cmC_len {c : Cm} {i : Int} (h : 3 < c.1.length) : cmC c i = 2 := if_pos h
theorem cmC_par {c : Cm} {i : Int} (h : ¬ 3 < c.1.length) (g : paC i (-1) c.1 ≠ 0) : cmC c i = paC i (-1) c.1 := by unfold cmC; rw [if_neg h, if_pos g]
theorem cmC_rest {c : Cm} {i : Int} (h : ¬ 3 < c.1.length) (g : paC i (-1) c.1 = 0) : cmC c i =
    if c.2.1 < 0 ∨ 7 < c.2.1 ∨ c.2.2.1 < 0 ∨ 100000 < c.2.2.1 ∨ c.2.2.2.1 < 0 ∨ 2305843009213693951 ≤ c.2.2.2.1 then 3 else if 80 < c.2.2.2.2.size then 10 else 0 := by
  unfold cmC; rw [if_neg h, if_neg (by rw [g]; decide)]
theorem paC_step {i q : Int} {l : List Int} {k : Nat} (h : k < l.length) : paC i q (l.drop k) = if l[k] < 0 ∨ i ≤ l[k] then 3 else if l[k] ≤ q then 5 else paC i l[k] (l.drop (k + 1)) := by
  rw [List.drop_eq_getElem_cons h]; rfl
theorem getD_of {α : Type} {a : List α} (d : α) {k : Nat} (h : k < a.length) : a.getD ((k : Int)).toNat d = a[k] := by
  rw [Int.toNat_natCast, List.getD_eq_getElem?_getD, List.getElem?_eq_getElem h]; rfl

def sp_hcheck : SpecF := pureSp false [tCm, .int .i64] (fun _ => True) (fun (c', i', _) => .v false [.d (.int .i64) (cmC c' i')])
theorem hcheck_sp : SpFact 50 sp_hcheck := by
  refine ⟨⟨Try.f50, rfl, rfl, rfl, pureSp_ok (env_fine (sp := []) (eq := []) True.intro True.intro) rfl (fun _ _ => rfl) ?_⟩, pureSp_loc _ _ _ _⟩
  rintro ⟨⟨par, au, ti, tr, ms⟩, i, u⟩ ⟨⟨⟨hp, -⟩, -, -, -, hm⟩, -⟩ -
  change List Int at par
  change Int at au ti tr i
  change ByteArray at ms
  have hm : ByteArray.size ms ≤ maxLen := hm
  rw [maxLen_eq] at hp hm
  dsimp only at hp
  by_cases h3 : 3 < par.length
  · have e : cmC (par, au, ti, tr, ms) i = 2 := cmC_len h3
    dsimp only
    rw [e]
    (refine fnM_of rfl rfl rfl rfl ?_; dsimp only [params, argAV, Ty.leaves, Ty.isSt])
    (repeat' (first | (with_reducible refine Cend.go ?_) | (with_reducible refine Step.mk True.intro ?_) | (with_reducible refine Step.mk ?_ ?_; focus (((try simp only [true_and, and_true, and_self, kmin, kmax, decide_eq_true_eq, decide_eq_false_iff_not, castD_self, castL_self, List.length_cons, List.length_nil, List.length_append, Int.natCast_add] at *) <;> omega))) | (with_reducible refine Step.mk ?_ ?_) | (with_reducible refine Way.t1 ?_) | (with_reducible refine Way.f1 ?_) | ((with_reducible refine Way.dec (fun _ => ?_) (fun _ => ?_)) <;> try (exfalso; omega)) | (with_reducible refine Way.nt ?_) | (with_reducible refine Way.mk (fun _ => ?_) (fun _ => ?_)) | (with_reducible refine Drawn.mk (by kernel_rfl) ?_) | (refine Run.mk ?_)))
    all_goals first | exact Ret.mk rfl | skip
  · have ePar := @cmC_par (par, au, ti, tr, ms) i h3
    have eRest := @cmC_rest (par, au, ti, tr, ms) i h3
    replace ePar := Lib.hid ePar
    replace eRest := Lib.hid eRest
    (refine fnM_of rfl rfl rfl rfl ?_; dsimp only [params, argAV, Ty.leaves, Ty.isSt])
    (repeat' (first | (with_reducible refine Cend.go ?_) | (with_reducible refine Step.mk True.intro ?_) | (with_reducible refine Step.mk ?_ ?_; focus (((try simp only [true_and, and_true, and_self, kmin, kmax, decide_eq_true_eq, decide_eq_false_iff_not, castD_self, castL_self, List.length_cons, List.length_nil, List.length_append, Int.natCast_add] at *) <;> omega))) | (with_reducible refine Step.mk ?_ ?_) | (with_reducible refine Way.t1 ?_) | (with_reducible refine Way.f1 ?_) | ((with_reducible refine Way.dec (fun _ => ?_) (fun _ => ?_)) <;> try (exfalso; omega)) | (with_reducible refine Way.nt ?_) | (with_reducible refine Way.mk (fun _ => ?_) (fun _ => ?_)) | (with_reducible refine Drawn.mk (by kernel_rfl) ?_) | (refine Run.mk ?_)))
    refine loop_by (X := Nat × Int) (fun x => [.put 1 (.v false [.d (.int .i64) i]), .put 2 (.v false [.p 2 0]), .put 12 (.v false [.d (.slice (.int .i64)) par]), .put 13 (.v false [.d (.int .i64) (par.length : Int)]), .put 14 (.v false [.d (.int .i64) (x.1 : Int)])])
      (fun _ => [.put 2 (.box 61 [.d (.slice (.int .i64)) par, .d (.int .i64) au, .d (.int .i64) ti, .d (.int .i64) tr, .d .str ms])])
      (fun x => x.1 ≤ par.length ∧ paC i (-1) par = paC i x.2 (par.drop x.1) ∧ (x.1 = 0 → x.2 = -1) ∧ (0 < x.1 → x.2 = par.getD (x.1 - 1) 0)) (fun x => par.length - x.1) (0, -1) ⟨Nat.zero_le _, rfl, fun _ => rfl, fun h => absurd h (Nat.lt_irrefl 0)⟩ ?_ ?_
    · (refine Wk.keep ?_ ?_ <;> repeat' (first | exact True.intro | refine And.intro rfl ?_ | refine And.intro (congrArg (fun z : Int => AV.v false [Lf.d (.int .i64) z]) (by first | omega | (simp only [Int.natCast_add, List.length_cons, List.length_append, List.length_nil]; omega))) ?_ | refine And.intro ?_ ?_))
    rintro ⟨k, q⟩ ⟨hk, hC, hq0, hq1⟩
    dsimp only at hk hC hq0 hq1 ⊢
    by_cases hlt : k < par.length
    · have hg : par.getD ((k : Int)).toNat (Ty.int .i64).dflt = par[k] := getD_of _ hlt
      rw [paC_step hlt, ← hg] at hC
      have hpr : 0 < k → par.getD ((k : Int) - 1).toNat (Ty.int .i64).dflt = q := fun h => by
        rw [hq1 h, show ((k : Int) - 1).toNat = k - 1 by omega]; rfl
      obtain ⟨p, hp'⟩ : ∃ p, par.getD ((k : Int)).toNat (Ty.int .i64).dflt = p := ⟨_, rfl⟩
      rw [hp'] at hC
      replace hC := Lib.hid hC
      replace hg := Lib.hid hg
      replace hq0 := Lib.hid hq0
      replace hq1 := Lib.hid hq1
      replace hpr := Lib.hid hpr
      (repeat' (first | (with_reducible refine Cend.go ?_) | (with_reducible refine Step.mk True.intro ?_) | (with_reducible refine Step.mk ?_ ?_; focus (((try simp only [true_and, and_true, and_self, kmin, kmax, decide_eq_true_eq, decide_eq_false_iff_not, castD_self, castL_self, List.length_cons, List.length_nil, List.length_append, Int.natCast_add] at *) <;> omega))) | (with_reducible refine Step.mk ?_ ?_) | (with_reducible refine Way.t1 ?_) | (with_reducible refine Way.f1 ?_) | ((with_reducible refine Way.dec (fun _ => ?_) (fun _ => ?_)) <;> try (exfalso; omega)) | (with_reducible refine Way.nt ?_) | (with_reducible refine Way.mk (fun _ => ?_) (fun _ => ?_)) | (with_reducible refine Drawn.mk (by kernel_rfl) ?_) | (refine Run.mk ?_)))
      · rename_i q1
        have q1 : p < 0 := hp' ▸ q1
        have e : paC i (-1) par = 3 := hC.out.trans (if_pos (.inl q1))
        refine Ret.mk ?_
        rw [ePar.out (by show paC i (-1) par ≠ 0; rw [e]; decide)]
        show _ = AV.v false [Lf.d (Ty.int IntKind.i64) (paC i (-1) par)]
        rw [e]; rfl
      · rename_i q1
        have q1 : i ≤ p := hp' ▸ q1
        have e : paC i (-1) par = 3 := hC.out.trans (if_pos (.inr q1))
        refine Ret.mk ?_
        rw [ePar.out (by show paC i (-1) par ≠ 0; rw [e]; decide)]
        show _ = AV.v false [Lf.d (Ty.int IntKind.i64) (paC i (-1) par)]
        rw [e]; rfl
      · rename_i q0 q1 q2 q3
        have q0 : ¬ p < 0 := hp' ▸ q0
        have q1 : ¬ i ≤ p := hp' ▸ q1
        have q3 : par.getD ((k : Int)).toNat (Ty.int .i64).dflt ≤ par.getD ((k : Int) - 1).toNat (Ty.int .i64).dflt := q3
        rw [hpr.out (by omega)] at q3
        have q3 : p ≤ q := hp' ▸ q3
        have e : paC i (-1) par = 5 := hC.out.trans ((if_neg (fun z => z.elim q0 q1)).trans (if_pos q3))
        refine Ret.mk ?_
        rw [ePar.out (by show paC i (-1) par ≠ 0; rw [e]; decide)]
        show _ = AV.v false [Lf.d (Ty.int IntKind.i64) (paC i (-1) par)]
        rw [e]; rfl
      · rename_i q0 q1 q2 q3
        have q0 : ¬ p < 0 := hp' ▸ q0
        have q1 : ¬ i ≤ p := hp' ▸ q1
        have q3 : ¬ par.getD ((k : Int)).toNat (Ty.int .i64).dflt ≤ par.getD ((k : Int) - 1).toNat (Ty.int .i64).dflt := q3
        rw [hpr.out (by omega)] at q3
        have q3 : ¬ p ≤ q := hp' ▸ q3
        have e : paC i (-1) par = paC i p (par.drop (k + 1)) := hC.out.trans ((if_neg (fun z => z.elim q0 q1)).trans (if_neg q3))
        (refine Back.by ((k + 1, p)) ?_ ?_ ?_; focus (refine Wk.keep ?_ ?_ <;> repeat' (first | exact True.intro | refine And.intro rfl ?_ | refine And.intro (congrArg (fun z : Int => AV.v false [Lf.d (.int .i64) z]) (by first | omega | (simp only [Int.natCast_add, List.length_cons, List.length_append, List.length_nil]; omega))) ?_ | refine And.intro ?_ ?_)))
        · exact ⟨hlt, e, fun h => absurd h (Nat.succ_ne_zero k), fun _ => by rw [← hp', Int.toNat_natCast]; rfl⟩
        · show par.length - (k + 1) < par.length - k; omega
      · rename_i q0 q1 q2
        have q0 : ¬ p < 0 := hp' ▸ q0
        have q1 : ¬ i ≤ p := hp' ▸ q1
        have q3 : ¬ p ≤ q := by rw [hq0.out (by omega)]; omega
        have e : paC i (-1) par = paC i p (par.drop (k + 1)) := hC.out.trans ((if_neg (fun z => z.elim q0 q1)).trans (if_neg q3))
        (refine Back.by ((k + 1, p)) ?_ ?_ ?_; focus (refine Wk.keep ?_ ?_ <;> repeat' (first | exact True.intro | refine And.intro rfl ?_ | refine And.intro (congrArg (fun z : Int => AV.v false [Lf.d (.int .i64) z]) (by first | omega | (simp only [Int.natCast_add, List.length_cons, List.length_append, List.length_nil]; omega))) ?_ | refine And.intro ?_ ?_)))
        · exact ⟨hlt, e, fun h => absurd h (Nat.succ_ne_zero k), fun _ => by rw [← hp', Int.toNat_natCast]; rfl⟩
        · show par.length - (k + 1) < par.length - k; omega
    · have hC : paC i (-1) par = 0 := by rw [hC, List.drop_eq_nil_of_le (by omega)]; rfl
      have eRest := eRest.out hC
      replace eRest := Lib.hid eRest
      replace hC := Lib.hid hC
      replace hq0 := Lib.hid hq0
      replace hq1 := Lib.hid hq1
      (repeat' (first | (with_reducible refine Cend.go ?_) | (with_reducible refine Step.mk True.intro ?_) | (with_reducible refine Step.mk ?_ ?_; focus (((try simp only [true_and, and_true, and_self, kmin, kmax, decide_eq_true_eq, decide_eq_false_iff_not, castD_self, castL_self, List.length_cons, List.length_nil, List.length_append, Int.natCast_add] at *) <;> omega))) | (with_reducible refine Step.mk ?_ ?_) | (with_reducible refine Way.t1 ?_) | (with_reducible refine Way.f1 ?_) | ((with_reducible refine Way.dec (fun _ => ?_) (fun _ => ?_)) <;> try (exfalso; omega)) | (with_reducible refine Way.nt ?_) | (with_reducible refine Way.mk (fun _ => ?_) (fun _ => ?_)) | (with_reducible refine Drawn.mk (by kernel_rfl) ?_) | (refine Run.mk ?_)))
      all_goals (refine Ret.mk ?_; dsimp only; rw [eRest.out]; dsimp only; first | (rw [if_pos (by omega)]; rfl) | (rw [if_neg (by omega), if_pos (by omega)]; rfl) | (rw [if_neg (by omega), if_neg (by omega)]; rfl) | skip)
def sp_HVal : SpecF := pureSp false [.slice tCm] (fun _ => True) (fun (l', _) => .v true [.d (.int .i64) (hC l'), .d (.int .i64) (hI l')])
theorem HVal_sp : SpFact 25 sp_HVal := by
  refine ⟨⟨Try.f25, rfl, rfl, rfl, pureSp_ok (env_fine (sp := [(50, sp_hcheck)]) (eq := []) ⟨hcheck_sp, True.intro⟩ True.intro) rfl (fun ⟨_, _⟩ _ => rfl) ?_⟩, pureSp_loc _ _ _ _⟩
  rintro ⟨l, u⟩ ⟨⟨hl, -⟩, -⟩ -
  change List Cm at l
  rw [maxLen_eq] at hl
  dsimp only at hl
  have hl : l.length ≤ 9223372036854775807 := hl
  by_cases h1 : 60 < l.length
  · have e1 : hC l = 2 := if_pos h1
    have e2 : hI l = -1 := if_pos h1
    dsimp only
    rw [e1, e2]
    (refine fnM_of rfl rfl rfl rfl ?_; dsimp only [params, argAV, Ty.leaves, Ty.isSt])
    (repeat' (first | (with_reducible refine Cend.go ?_) | (with_reducible refine Step.mk True.intro ?_) | (with_reducible refine Step.mk ?_ ?_; focus (((try simp only [true_and, and_true, and_self, kmin, kmax, decide_eq_true_eq, decide_eq_false_iff_not, castD_self, castL_self, List.length_cons, List.length_nil, List.length_append, Int.natCast_add] at *) <;> omega))) | (with_reducible refine Step.mk ?_ ?_) | (with_reducible refine Way.t1 ?_) | (with_reducible refine Way.f1 ?_) | ((with_reducible refine Way.dec (fun _ => ?_) (fun _ => ?_)) <;> try (exfalso; omega)) | (with_reducible refine Way.nt ?_) | (with_reducible refine Way.mk (fun _ => ?_) (fun _ => ?_)) | (with_reducible refine Drawn.mk (by kernel_rfl) ?_) | (refine Run.mk ?_)))
    all_goals first | exact Ret.mk rfl | skip
  (refine fnM_of rfl rfl rfl rfl ?_; dsimp only [params, argAV, Ty.leaves, Ty.isSt])
  (repeat' (first | (with_reducible refine Cend.go ?_) | (with_reducible refine Step.mk True.intro ?_) | (with_reducible refine Step.mk ?_ ?_; focus (((try simp only [true_and, and_true, and_self, kmin, kmax, decide_eq_true_eq, decide_eq_false_iff_not, castD_self, castL_self, List.length_cons, List.length_nil, List.length_append, Int.natCast_add] at *) <;> omega))) | (with_reducible refine Step.mk ?_ ?_) | (with_reducible refine Way.t1 ?_) | (with_reducible refine Way.f1 ?_) | ((with_reducible refine Way.dec (fun _ => ?_) (fun _ => ?_)) <;> try (exfalso; omega)) | (with_reducible refine Way.nt ?_) | (with_reducible refine Way.mk (fun _ => ?_) (fun _ => ?_)) | (with_reducible refine Drawn.mk (by kernel_rfl) ?_) | (refine Run.mk ?_)))
  refine loop_by (X := Nat) (fun x => [.put 2 (.v false [.p 2 0]), .put 10 (.v false [.d (.slice tCm) l]), .put 11 (.v false [.d (.int .i64) (l.length : Int)]), .put 12 (.v false [.d (.int .i64) (x : Int)])])
    (fun _ => [.put 2 (.box 24 [.d (.int .i64) 0, .d (.int .i64) 0])]) (fun x => x ≤ l.length ∧ hC l = hcC x (l.drop x) ∧ hI l = hcI x (l.drop x)) (fun x => l.length - x) 0 ⟨Nat.zero_le _, if_neg h1, if_neg h1⟩ ?_ ?_
  · (refine Wk.keep ?_ ?_ <;> repeat' (first | exact True.intro | refine And.intro rfl ?_ | refine And.intro (congrArg (fun z : Int => AV.v false [Lf.d (.int .i64) z]) (by first | omega | (simp only [Int.natCast_add, List.length_cons, List.length_append, List.length_nil]; omega))) ?_ | refine And.intro ?_ ?_))
  rintro k ⟨hk, hcC, hcI⟩
  dsimp only at hk hcC hcI ⊢
  by_cases hlt : k < l.length
  · have hg : l.getD ((k : Int)).toNat tCm.dflt = l[k] := getD_of _ hlt
    rw [hcC_step hlt, ← hg] at hcC
    rw [hcI_step hlt, ← hg] at hcI
    replace hcC := Lib.hid hcC
    replace hcI := Lib.hid hcI
    replace hg := Lib.hid hg
    (repeat' (first | (with_reducible refine Cend.go ?_) | (with_reducible refine Step.mk True.intro ?_) | (with_reducible refine Step.mk ?_ ?_; focus (((try simp only [true_and, and_true, and_self, kmin, kmax, decide_eq_true_eq, decide_eq_false_iff_not, castD_self, castL_self, List.length_cons, List.length_nil, List.length_append, Int.natCast_add] at *) <;> omega))) | (with_reducible refine Step.mk ?_ ?_) | (with_reducible refine Way.t1 ?_) | (with_reducible refine Way.f1 ?_) | ((with_reducible refine Way.dec (fun _ => ?_) (fun _ => ?_)) <;> try (exfalso; omega)) | (with_reducible refine Way.nt ?_) | (with_reducible refine Way.mk (fun _ => ?_) (fun _ => ?_)) | (with_reducible refine Drawn.mk (by kernel_rfl) ?_) | (refine Run.mk ?_)))
    · rename_i q
      have q : cmC (l.getD ((k : Int)).toNat tCm.dflt) k = 0 := q
      (refine Back.by (k + 1) ?_ ?_ ?_; focus (refine Wk.keep ?_ ?_ <;> repeat' (first | exact True.intro | refine And.intro rfl ?_ | refine And.intro (congrArg (fun z : Int => AV.v false [Lf.d (.int .i64) z]) (by first | omega | (simp only [Int.natCast_add, List.length_cons, List.length_append, List.length_nil]; omega))) ?_ | refine And.intro ?_ ?_)))
      · exact ⟨hlt, hcC.out.trans (if_pos q), hcI.out.trans (if_pos q)⟩
      · show l.length - (k + 1) < l.length - k; omega
    · rename_i q
      have q : ¬ cmC (l.getD ((k : Int)).toNat tCm.dflt) k = 0 := q
      refine Ret.mk ?_
      show AV.v true [.d (.int .i64) (cmC (l.getD ((k : Int)).toNat tCm.dflt) k), .d (.int .i64) ((k : Nat) : Int)] = AV.v true [.d (.int .i64) (hC l), .d (.int .i64) (hI l)]
      rw [hcC.out, hcI.out, if_neg q, if_neg q]
  · have e1 : hC l = 0 := by rw [hcC, List.drop_eq_nil_of_le (by omega)]; rfl
    have e2 : hI l = 0 := hI_good l e1
    rw [e1, e2]
    clear hcC hcI
    (repeat' (first | (with_reducible refine Cend.go ?_) | (with_reducible refine Step.mk True.intro ?_) | (with_reducible refine Step.mk ?_ ?_; focus (((try simp only [true_and, and_true, and_self, kmin, kmax, decide_eq_true_eq, decide_eq_false_iff_not, castD_self, castL_self, List.length_cons, List.length_nil, List.length_append, Int.natCast_add] at *) <;> omega))) | (with_reducible refine Step.mk ?_ ?_) | (with_reducible refine Way.t1 ?_) | (with_reducible refine Way.f1 ?_) | ((with_reducible refine Way.dec (fun _ => ?_) (fun _ => ?_)) <;> try (exfalso; omega)) | (with_reducible refine Way.nt ?_) | (with_reducible refine Way.mk (fun _ => ?_) (fun _ => ?_)) | (with_reducible refine Drawn.mk (by kernel_rfl) ?_) | (refine Run.mk ?_)))
    all_goals first | exact Ret.mk rfl | skip
end Go.Proofs.Ytgdlbpihkodeoaa
