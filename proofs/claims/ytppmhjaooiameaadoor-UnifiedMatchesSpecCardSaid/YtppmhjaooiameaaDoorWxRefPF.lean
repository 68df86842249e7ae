/- The walks of the reference's End, Growth, PatchFault, Pair. -/
import Derived.Test.YtppmhjaooiameaaDoorWxRefLin
import Derived.Test.YtppmhjaooiameaaDoorPatPure
namespace Go.Proofs.YtppmhjaooiameaaDoor
open Go.RowKit
set_option maxRecDepth 10000
set_option linter.unusedSimpArgs false

def HkB (h : Hk) : Prop := -1000000 ≤ h.1 ∧ h.1 ≤ 1000000 ∧ h.2.1.length ≤ 120 ∧ h.2.2.length ≤ 120
theorem HkOk.b {h : Hk} (q : HkOk h) : HkB h := ⟨by have := q.1; omega, by have := q.2.1; omega, q.2.2.1, q.2.2.2⟩
def sp_REnd : SpecF := pureSp true [tHk] (fun (h', _) => HkB h') (fun (h', _) => .v false [.d (.int .i64) (hkEnd h')])
theorem REnd_sp : SpFact 23 sp_REnd := by
  refine ⟨⟨Tryd.f23, rfl, rfl, rfl, pureSp_ok (env_fine (sp := []) (eq := []) True.intro True.intro) rfl (fun ⟨_, _⟩ _ => rfl) ?_⟩, pureSp_loc _ _ _ _⟩
  rintro ⟨⟨a, o, n⟩, u⟩ - ⟨h1, h2, h3, h4⟩
  change Int at a
  change List ByteArray at o n
  replace h1 : -1000000 ≤ a := h1
  replace h2 : a ≤ 1000000 := h2
  replace h3 : o.length ≤ 120 := h3
  (refine fnM_of rfl rfl rfl rfl ?_; dsimp only [params, argAV, Ty.leaves, Ty.isSt])
  (repeat' (first | (with_reducible refine Cend.go ?_) | (with_reducible refine Step.mk True.intro ?_) | (with_reducible refine Step.mk ?_ ?_; focus (((try simp only [true_and, and_true, and_self, kmin, kmax, decide_eq_true_eq, decide_eq_false_iff_not, castD_self, castL_self, List.length_cons, List.length_nil, List.length_append, Int.natCast_add] at *) <;> omega))) | (with_reducible refine Step.mk ?_ ?_) | (with_reducible refine Way.t1 ?_) | (with_reducible refine Way.f1 ?_) | ((with_reducible refine Way.dec (fun _ => ?_) (fun _ => ?_)) <;> try (exfalso; omega)) | (with_reducible refine Way.nt ?_) | (with_reducible refine Way.mk (fun _ => ?_) (fun _ => ?_)) | (with_reducible refine Drawn.mk (by kernel_rfl) ?_) | (refine Run.mk ?_)))
  exact Ret.mk rfl
theorem phC_step' {p : List Hk} {k : Nat} (h : k < p.length) (e : Int) : phC e (p.drop k) = if hkC p[k] e = 0 then phC (hkEnd p[k]) (p.drop (k + 1)) else hkC p[k] e := by
  rw [List.drop_eq_getElem_cons h]; rfl
theorem phI_step' {p : List Hk} {k : Nat} (h : k < p.length) (e i : Int) : phI e i (p.drop k) = if hkC p[k] e = 0 then phI (hkEnd p[k]) (i + 1) (p.drop (k + 1)) else i := by
  rw [List.drop_eq_getElem_cons h]; rfl
theorem pf_bad {p : List Hk} {k : Nat} {e c : Int} {h : Hk} {x : Int} (hC : pC p = if hkC h e = 0 then x else hkC h e) {y : Int} (hI : pI p = if hkC h e = 0 then y else (k : Int)) (hc : hkC h e = c) (h0 : c ≠ 0) : pC p = c ∧ pI p = k := by
  rw [hc] at hC hI
  rw [if_neg h0] at hC hI
  exact ⟨hC, hI⟩
theorem hkC_rng {h : Hk} {e : Int} (h1 : h.1 < 0 ∨ 120 < h.1) : hkC h e = 3 := if_pos h1
theorem hkC_old {h : Hk} {e : Int} (h1 : ¬ h.1 < 0) (h2 : ¬ 120 < h.1) (h3 : ¬ vC h.2.1 = 0) : hkC h e = vC h.2.1 := by
  unfold hkC; rw [if_neg (by omega), if_pos h3]
theorem hkC_new {h : Hk} {e : Int} (h1 : ¬ h.1 < 0) (h2 : ¬ 120 < h.1) (h3 : vC h.2.1 = 0) (h4 : ¬ vC h.2.2 = 0) : hkC h e = vC h.2.2 := by
  unfold hkC; rw [if_neg (by omega), if_neg (by rw [h3]; decide), if_pos h4]
theorem hkC_five {h : Hk} {e : Int} (h1 : ¬ h.1 < 0) (h2 : ¬ 120 < h.1) (h3 : vC h.2.1 = 0) (h4 : vC h.2.2 = 0) (h5 : h.2.1.length + h.2.2.length = 0 ∨ h.1 ≤ e) : hkC h e = 5 := by
  unfold hkC; rw [if_neg (by omega), if_neg (by rw [h3]; decide), if_neg (by rw [h4]; decide), if_pos h5]
theorem hkC_end {h : Hk} {e : Int} (h1 : ¬ h.1 < 0) (h2 : ¬ 120 < h.1) (h3 : vC h.2.1 = 0) (h4 : vC h.2.2 = 0) (h5 : ¬ (h.2.1.length + h.2.2.length = 0 ∨ h.1 ≤ e)) (h6 : 120 < hkEnd h) : hkC h e = 3 := by
  unfold hkC; rw [if_neg (by omega), if_neg (by rw [h3]; decide), if_neg (by rw [h4]; decide), if_neg h5]; exact if_pos h6
theorem hkC_ok {h : Hk} {e : Int} (h1 : ¬ h.1 < 0) (h2 : ¬ 120 < h.1) (h3 : vC h.2.1 = 0) (h4 : vC h.2.2 = 0) (h5 : ¬ (h.2.1.length + h.2.2.length = 0 ∨ h.1 ≤ e)) (h6 : ¬ 120 < hkEnd h) : hkC h e = 0 := by
  unfold hkC; rw [if_neg (by omega), if_neg (by rw [h3]; decide), if_neg (by rw [h4]; decide), if_neg h5]; exact if_neg h6
def sp_PF : SpecF := pureSp true [tPat] (fun _ => True) (fun (p', _) => .v true [.d (.int .i64) (pC p'), .d (.int .i64) (pI p')])
theorem PF_sp : SpFact 30 sp_PF := by
  refine ⟨⟨Tryd.f30, rfl, rfl, rfl, pureSp_ok (env_fine (sp := [(22, sp_At), (31, sp_LCode), (23, sp_REnd)]) (eq := []) ⟨At_sp, LCode_sp, REnd_sp, True.intro⟩ True.intro) rfl (fun ⟨_, _⟩ _ => rfl) ?_⟩, pureSp_loc _ _ _ _⟩
  rintro ⟨p, u⟩ ⟨⟨hl, -⟩, -⟩ -
  change List Hk at p
  rw [maxLen_eq] at hl
  dsimp only at hl
  (refine fnM_of rfl rfl rfl rfl ?_; dsimp only [params, argAV, Ty.leaves, Ty.isSt])
  (repeat' (first | (with_reducible refine Cend.go ?_) | (with_reducible refine Step.mk True.intro ?_) | (with_reducible refine Step.mk ?_ ?_; focus (((try simp only [true_and, and_true, and_self, kmin, kmax, decide_eq_true_eq, decide_eq_false_iff_not, castD_self, castL_self, List.length_cons, List.length_nil, List.length_append, Int.natCast_add] at *) <;> omega))) | (with_reducible refine Step.mk ?_ ?_) | (with_reducible refine Way.t1 ?_) | (with_reducible refine Way.f1 ?_) | ((with_reducible refine Way.dec (fun _ => ?_) (fun _ => ?_)) <;> try (exfalso; omega)) | (with_reducible refine Way.nt ?_) | (with_reducible refine Way.mk (fun _ => ?_) (fun _ => ?_)) | (with_reducible refine Drawn.mk (by kernel_rfl) ?_) | (refine Run.mk ?_)))
  · rename_i h1
    have h1 : 130 < p.length := by omega
    refine Ret.mk ?_
    show AV.v true [.d (.int .i64) 2, .d (.int .i64) (-1)] = AV.v true [.d (.int .i64) (pC p), .d (.int .i64) (pI p)]
    rw [show pC p = 2 from if_pos h1, show pI p = -1 from if_pos h1]
  rename_i h1
  have h1 : ¬ 130 < p.length := by omega
  refine loop_by (X := Nat × Int) (fun x => [.put 1 (.v false [.p 1 0]), .put 2 (.v false [.p 2 0]), .put 3 (.v false [.d (.int .i64) (x.1 : Int)])])
    (fun _ => [.put 1 (.box 25 [.d (.slice tHk) p]), .put 2 (.box 27 [.d (.int .i64) 0, .d (.int .i64) 0])])
    (fun x => x.1 ≤ p.length ∧ pC p = phC x.2 (p.drop x.1) ∧ pI p = phI x.2 x.1 (p.drop x.1) ∧ (x.1 = 0 → x.2 = -1) ∧ (0 < x.1 → x.2 = hkEnd (p.getD ((x.1 : Int) - 1).toNat tHk.dflt) ∧ HkOk (p.getD ((x.1 : Int) - 1).toNat tHk.dflt))) (fun x => p.length - x.1) (0, -1) ⟨Nat.zero_le _, if_neg h1, if_neg h1, fun _ => rfl, fun h => absurd h (Nat.lt_irrefl 0)⟩ ?_ ?_
  · (refine Wk.keep ?_ ?_ <;> repeat' (first | exact True.intro | refine And.intro rfl ?_ | refine And.intro (congrArg (fun z : Int => AV.v false [Lf.d (.int .i64) z]) (by first | omega | (simp only [Int.natCast_add, List.length_cons, List.length_append, List.length_nil]; omega))) ?_ | refine And.intro ?_ ?_))
  rintro ⟨k, e⟩ ⟨hk, hC, hI, he1, he2⟩
  dsimp only at hk hC hI he1 he2 ⊢
  by_cases hlt : k < p.length
  · have hg := getD_at (a := p) tHk.dflt hlt
    rw [phC_step' hlt, ← hg] at hC
    rw [phI_step' hlt, ← hg] at hI
    replace hC := Lib.hid hC
    replace hI := Lib.hid hI
    replace hg := Lib.hid hg
    replace he1 := Lib.hid he1
    replace he2 := Lib.hid he2
    (repeat' (first | (with_reducible refine Cend.go ?_) | (with_reducible refine Step.mk True.intro ?_) | (with_reducible refine Step.mk ?_ ?_; focus (((try simp only [true_and, and_true, and_self, kmin, kmax, decide_eq_true_eq, decide_eq_false_iff_not, castD_self, castL_self, List.length_cons, List.length_nil, List.length_append, Int.natCast_add] at *) <;> omega))) | (with_reducible refine Step.mk ?_ ?_) | (with_reducible refine Way.t1 ?_) | (with_reducible refine Way.f1 ?_) | ((with_reducible refine Way.dec (fun _ => ?_) (fun _ => ?_)) <;> try (exfalso; omega)) | (with_reducible refine Way.nt ?_) | (with_reducible refine Way.mk (fun _ => ?_) (fun _ => ?_)) | (with_reducible refine Drawn.mk (by kernel_rfl) ?_) | (refine Run.mk ?_)))
    · rename_i a0 a1
      have a1 : (p.getD ((k : Int)).toNat tHk.dflt).1 < 0 := a1
      obtain ⟨q1, q2⟩ := pf_bad hC.out hI.out (hkC_rng (.inl a1)) (by decide)
      refine Ret.mk ?_
      show AV.v true [.d (.int .i64) 3, .d (.int .i64) (k : Int)] = AV.v true [.d (.int .i64) (pC p), .d (.int .i64) (pI p)]
      rw [q1, q2]
    · rename_i a0 a1 a2
      have a2 : 120 < (p.getD ((k : Int)).toNat tHk.dflt).1 := a2
      obtain ⟨q1, q2⟩ := pf_bad hC.out hI.out (hkC_rng (.inr a2)) (by decide)
      refine Ret.mk ?_
      show AV.v true [.d (.int .i64) 3, .d (.int .i64) (k : Int)] = AV.v true [.d (.int .i64) (pC p), .d (.int .i64) (pI p)]
      rw [q1, q2]
    · rename_i a0 a1 a2 a3 a4
      have a3 : vC (p.getD ((k : Int)).toNat tHk.dflt).2.1 = 0 := a3
      have a4 : vC (p.getD ((k : Int)).toNat tHk.dflt).2.2 = 0 := a4
      have l1 := vC_len _ a3
      have l2 := vC_len _ a4
      show (((p.getD ((k : Int)).toNat tHk.dflt).2.1.length : Nat) : Int) ≤ 9223372036854775807
      omega
    · rename_i a0 a1 a2 a3 a4
      have a3 : vC (p.getD ((k : Int)).toNat tHk.dflt).2.1 = 0 := a3
      have a4 : vC (p.getD ((k : Int)).toNat tHk.dflt).2.2 = 0 := a4
      have l1 := vC_len _ a3
      have l2 := vC_len _ a4
      show (((p.getD ((k : Int)).toNat tHk.dflt).2.2.length : Nat) : Int) ≤ 9223372036854775807
      omega
    · rename_i a0 a1 a2 a3 a4
      have a3 : vC (p.getD ((k : Int)).toNat tHk.dflt).2.1 = 0 := a3
      have a4 : vC (p.getD ((k : Int)).toNat tHk.dflt).2.2 = 0 := a4
      have l1 := vC_len _ a3
      have l2 := vC_len _ a4
      show (-9223372036854775808 : Int) ≤ (((p.getD ((k : Int)).toNat tHk.dflt).2.1.length : Nat) : Int) + (((p.getD ((k : Int)).toNat tHk.dflt).2.2.length : Nat) : Int) ∧ (((p.getD ((k : Int)).toNat tHk.dflt).2.1.length : Nat) : Int) + (((p.getD ((k : Int)).toNat tHk.dflt).2.2.length : Nat) : Int) ≤ 9223372036854775807
      omega
    · rename_i a0 a1 a2 a3 a4 a5
      have a1 : ¬ (p.getD ((k : Int)).toNat tHk.dflt).1 < 0 := a1
      have a2 : ¬ 120 < (p.getD ((k : Int)).toNat tHk.dflt).1 := a2
      have a3 : vC (p.getD ((k : Int)).toNat tHk.dflt).2.1 = 0 := a3
      have a4 : vC (p.getD ((k : Int)).toNat tHk.dflt).2.2 = 0 := a4
      have a5 : ((((p.getD ((k : Int)).toNat tHk.dflt).2.1.length : Nat) : Int) + (((p.getD ((k : Int)).toNat tHk.dflt).2.2.length : Nat) : Int) = 0) := a5
      obtain ⟨q1, q2⟩ := pf_bad hC.out hI.out (hkC_five a1 a2 a3 a4 (.inl (by omega))) (by decide)
      refine Ret.mk ?_
      show AV.v true [.d (.int .i64) 5, .d (.int .i64) (k : Int)] = AV.v true [.d (.int .i64) (pC p), .d (.int .i64) (pI p)]
      rw [q1, q2]
    · rename_i a0 a1 a2 a3 a4 a5 a6
      exact (he2.out (by omega)).2.b
    · rename_i a0 a1 a2 a3 a4 a5 a6 a7
      have a1 : ¬ (p.getD ((k : Int)).toNat tHk.dflt).1 < 0 := a1
      have a2 : ¬ 120 < (p.getD ((k : Int)).toNat tHk.dflt).1 := a2
      have a3 : vC (p.getD ((k : Int)).toNat tHk.dflt).2.1 = 0 := a3
      have a4 : vC (p.getD ((k : Int)).toNat tHk.dflt).2.2 = 0 := a4
      have a7 : (p.getD ((k : Int)).toNat tHk.dflt).1 ≤ hkEnd (p.getD ((k : Int) - 1).toNat tHk.dflt) := a7
      have ee := (he2.out (by omega)).1
      obtain ⟨q1, q2⟩ := pf_bad hC.out hI.out (hkC_five a1 a2 a3 a4 (.inr (by rw [ee]; exact a7))) (by decide)
      refine Ret.mk ?_
      show AV.v true [.d (.int .i64) 5, .d (.int .i64) (k : Int)] = AV.v true [.d (.int .i64) (pC p), .d (.int .i64) (pI p)]
      rw [q1, q2]
    · rename_i a0 a1 a2 a3 a4 a5 a6 a7
      have a1 : ¬ (p.getD ((k : Int)).toNat tHk.dflt).1 < 0 := a1
      have a2 : ¬ 120 < (p.getD ((k : Int)).toNat tHk.dflt).1 := a2
      have a3 : vC (p.getD ((k : Int)).toNat tHk.dflt).2.1 = 0 := a3
      have a4 : vC (p.getD ((k : Int)).toNat tHk.dflt).2.2 = 0 := a4
      have ok : HkOk (p.getD ((k : Int)).toNat tHk.dflt) := ⟨by omega, by omega, vC_len _ a3, vC_len _ a4⟩
      exact ok.b
    · rename_i a0 a1 a2 a3 a4 a5 a6 a7 a8
      have a1 : ¬ (p.getD ((k : Int)).toNat tHk.dflt).1 < 0 := a1
      have a2 : ¬ 120 < (p.getD ((k : Int)).toNat tHk.dflt).1 := a2
      have a3 : vC (p.getD ((k : Int)).toNat tHk.dflt).2.1 = 0 := a3
      have a4 : vC (p.getD ((k : Int)).toNat tHk.dflt).2.2 = 0 := a4
      have a5 : ¬ ((((p.getD ((k : Int)).toNat tHk.dflt).2.1.length : Nat) : Int) + (((p.getD ((k : Int)).toNat tHk.dflt).2.2.length : Nat) : Int) = 0) := a5
      have a7 : ¬ (p.getD ((k : Int)).toNat tHk.dflt).1 ≤ hkEnd (p.getD ((k : Int) - 1).toNat tHk.dflt) := a7
      have ee := (he2.out (by omega)).1
      have a9 : ¬ ((p.getD ((k : Int)).toNat tHk.dflt).2.1.length + (p.getD ((k : Int)).toNat tHk.dflt).2.2.length = 0 ∨ (p.getD ((k : Int)).toNat tHk.dflt).1 ≤ e) := by rw [ee]; rintro (q | q); omega; exact a7 q
      have a8 : 120 < hkEnd (p.getD ((k : Int)).toNat tHk.dflt) := a8
      obtain ⟨q1, q2⟩ := pf_bad hC.out hI.out (hkC_end a1 a2 a3 a4 a9 a8) (by decide)
      refine Ret.mk ?_
      show AV.v true [.d (.int .i64) 3, .d (.int .i64) (k : Int)] = AV.v true [.d (.int .i64) (pC p), .d (.int .i64) (pI p)]
      rw [q1, q2]
    · rename_i a0 a1 a2 a3 a4 a5 a6 a7 a8
      have a1 : ¬ (p.getD ((k : Int)).toNat tHk.dflt).1 < 0 := a1
      have a2 : ¬ 120 < (p.getD ((k : Int)).toNat tHk.dflt).1 := a2
      have a3 : vC (p.getD ((k : Int)).toNat tHk.dflt).2.1 = 0 := a3
      have a4 : vC (p.getD ((k : Int)).toNat tHk.dflt).2.2 = 0 := a4
      have a5 : ¬ ((((p.getD ((k : Int)).toNat tHk.dflt).2.1.length : Nat) : Int) + (((p.getD ((k : Int)).toNat tHk.dflt).2.2.length : Nat) : Int) = 0) := a5
      have a7 : ¬ (p.getD ((k : Int)).toNat tHk.dflt).1 ≤ hkEnd (p.getD ((k : Int) - 1).toNat tHk.dflt) := a7
      have ee := (he2.out (by omega)).1
      have a9 : ¬ ((p.getD ((k : Int)).toNat tHk.dflt).2.1.length + (p.getD ((k : Int)).toNat tHk.dflt).2.2.length = 0 ∨ (p.getD ((k : Int)).toNat tHk.dflt).1 ≤ e) := by rw [ee]; rintro (q | q); omega; exact a7 q
      have ok : HkOk (p.getD ((k : Int)).toNat tHk.dflt) := ⟨by omega, by omega, vC_len _ a3, vC_len _ a4⟩
      have a8 : ¬ 120 < hkEnd (p.getD ((k : Int)).toNat tHk.dflt) := a8
      have hc := hkC_ok a1 a2 a3 a4 a9 a8
      have hC' := hC.out
      have hI' := hI.out
      rw [if_pos hc] at hC' hI'
      (refine Back.by ((k + 1, hkEnd (p.getD ((k : Int)).toNat tHk.dflt))) ?_ ?_ ?_; focus (refine Wk.keep ?_ ?_ <;> repeat' (first | exact True.intro | refine And.intro rfl ?_ | refine And.intro (congrArg (fun z : Int => AV.v false [Lf.d (.int .i64) z]) (by first | omega | (simp only [Int.natCast_add, List.length_cons, List.length_append, List.length_nil]; omega))) ?_ | refine And.intro ?_ ?_)))
      · exact ⟨hlt, hC', hI', fun q => absurd q (Nat.succ_ne_zero k), fun _ => by rw [show (((k + 1 : Nat) : Int) - 1).toNat = ((k : Int)).toNat by omega]; exact ⟨rfl, ok⟩⟩
      · show p.length - (k + 1) < p.length - k; omega
    · rename_i a0 a1 a2 a3 a4 a5 a6
      have a1 : ¬ (p.getD ((k : Int)).toNat tHk.dflt).1 < 0 := a1
      have a2 : ¬ 120 < (p.getD ((k : Int)).toNat tHk.dflt).1 := a2
      have a3 : vC (p.getD ((k : Int)).toNat tHk.dflt).2.1 = 0 := a3
      have a4 : vC (p.getD ((k : Int)).toNat tHk.dflt).2.2 = 0 := a4
      have ok : HkOk (p.getD ((k : Int)).toNat tHk.dflt) := ⟨by omega, by omega, vC_len _ a3, vC_len _ a4⟩
      exact ok.b
    · rename_i a0 a1 a2 a3 a4 a5 a6 a8
      have a1 : ¬ (p.getD ((k : Int)).toNat tHk.dflt).1 < 0 := a1
      have a2 : ¬ 120 < (p.getD ((k : Int)).toNat tHk.dflt).1 := a2
      have a3 : vC (p.getD ((k : Int)).toNat tHk.dflt).2.1 = 0 := a3
      have a4 : vC (p.getD ((k : Int)).toNat tHk.dflt).2.2 = 0 := a4
      have a5 : ¬ ((((p.getD ((k : Int)).toNat tHk.dflt).2.1.length : Nat) : Int) + (((p.getD ((k : Int)).toNat tHk.dflt).2.2.length : Nat) : Int) = 0) := a5
      have k0 : k = 0 := by omega
      have ee := he1.out k0
      have a9 : ¬ ((p.getD ((k : Int)).toNat tHk.dflt).2.1.length + (p.getD ((k : Int)).toNat tHk.dflt).2.2.length = 0 ∨ (p.getD ((k : Int)).toNat tHk.dflt).1 ≤ e) := by rw [ee]; rintro (q | q) <;> omega
      have a8 : 120 < hkEnd (p.getD ((k : Int)).toNat tHk.dflt) := a8
      obtain ⟨q1, q2⟩ := pf_bad hC.out hI.out (hkC_end a1 a2 a3 a4 a9 a8) (by decide)
      refine Ret.mk ?_
      show AV.v true [.d (.int .i64) 3, .d (.int .i64) (k : Int)] = AV.v true [.d (.int .i64) (pC p), .d (.int .i64) (pI p)]
      rw [q1, q2]
    · rename_i a0 a1 a2 a3 a4 a5 a6 a8
      have a1 : ¬ (p.getD ((k : Int)).toNat tHk.dflt).1 < 0 := a1
      have a2 : ¬ 120 < (p.getD ((k : Int)).toNat tHk.dflt).1 := a2
      have a3 : vC (p.getD ((k : Int)).toNat tHk.dflt).2.1 = 0 := a3
      have a4 : vC (p.getD ((k : Int)).toNat tHk.dflt).2.2 = 0 := a4
      have a5 : ¬ ((((p.getD ((k : Int)).toNat tHk.dflt).2.1.length : Nat) : Int) + (((p.getD ((k : Int)).toNat tHk.dflt).2.2.length : Nat) : Int) = 0) := a5
      have k0 : k = 0 := by omega
      have ee := he1.out k0
      have a9 : ¬ ((p.getD ((k : Int)).toNat tHk.dflt).2.1.length + (p.getD ((k : Int)).toNat tHk.dflt).2.2.length = 0 ∨ (p.getD ((k : Int)).toNat tHk.dflt).1 ≤ e) := by rw [ee]; rintro (q | q) <;> omega
      have ok : HkOk (p.getD ((k : Int)).toNat tHk.dflt) := ⟨by omega, by omega, vC_len _ a3, vC_len _ a4⟩
      have a8 : ¬ 120 < hkEnd (p.getD ((k : Int)).toNat tHk.dflt) := a8
      have hc := hkC_ok a1 a2 a3 a4 a9 a8
      have hC' := hC.out
      have hI' := hI.out
      rw [if_pos hc] at hC' hI'
      (refine Back.by ((k + 1, hkEnd (p.getD ((k : Int)).toNat tHk.dflt))) ?_ ?_ ?_; focus (refine Wk.keep ?_ ?_ <;> repeat' (first | exact True.intro | refine And.intro rfl ?_ | refine And.intro (congrArg (fun z : Int => AV.v false [Lf.d (.int .i64) z]) (by first | omega | (simp only [Int.natCast_add, List.length_cons, List.length_append, List.length_nil]; omega))) ?_ | refine And.intro ?_ ?_)))
      · exact ⟨hlt, hC', hI', fun q => absurd q (Nat.succ_ne_zero k), fun _ => by rw [show (((k + 1 : Nat) : Int) - 1).toNat = ((k : Int)).toNat by omega]; exact ⟨rfl, ok⟩⟩
      · show p.length - (k + 1) < p.length - k; omega
    · rename_i a0 a1 a2 a3 a4
      have a1 : ¬ (p.getD ((k : Int)).toNat tHk.dflt).1 < 0 := a1
      have a2 : ¬ 120 < (p.getD ((k : Int)).toNat tHk.dflt).1 := a2
      have a3 : vC (p.getD ((k : Int)).toNat tHk.dflt).2.1 = 0 := a3
      have a4 : ¬ vC (p.getD ((k : Int)).toNat tHk.dflt).2.2 = 0 := a4
      obtain ⟨q1, q2⟩ := pf_bad hC.out hI.out (hkC_new a1 a2 a3 a4) (by exact a4)
      refine Ret.mk ?_
      show AV.v true [.d (.int .i64) (vC (p.getD ((k : Int)).toNat tHk.dflt).2.2), .d (.int .i64) (k : Int)] = AV.v true [.d (.int .i64) (pC p), .d (.int .i64) (pI p)]
      rw [q1, q2]
    · rename_i a0 a1 a2 a3
      have a1 : ¬ (p.getD ((k : Int)).toNat tHk.dflt).1 < 0 := a1
      have a2 : ¬ 120 < (p.getD ((k : Int)).toNat tHk.dflt).1 := a2
      have a3 : ¬ vC (p.getD ((k : Int)).toNat tHk.dflt).2.1 = 0 := a3
      obtain ⟨q1, q2⟩ := pf_bad hC.out hI.out (hkC_old a1 a2 a3) (by exact a3)
      refine Ret.mk ?_
      show AV.v true [.d (.int .i64) (vC (p.getD ((k : Int)).toNat tHk.dflt).2.1), .d (.int .i64) (k : Int)] = AV.v true [.d (.int .i64) (pC p), .d (.int .i64) (pI p)]
      rw [q1, q2]
  · (repeat' (first | (with_reducible refine Cend.go ?_) | (with_reducible refine Step.mk True.intro ?_) | (with_reducible refine Step.mk ?_ ?_; focus (((try simp only [true_and, and_true, and_self, kmin, kmax, decide_eq_true_eq, decide_eq_false_iff_not, castD_self, castL_self, List.length_cons, List.length_nil, List.length_append, Int.natCast_add] at *) <;> omega))) | (with_reducible refine Step.mk ?_ ?_) | (with_reducible refine Way.t1 ?_) | (with_reducible refine Way.f1 ?_) | ((with_reducible refine Way.dec (fun _ => ?_) (fun _ => ?_)) <;> try (exfalso; omega)) | (with_reducible refine Way.nt ?_) | (with_reducible refine Way.mk (fun _ => ?_) (fun _ => ?_)) | (with_reducible refine Drawn.mk (by kernel_rfl) ?_) | (refine Run.mk ?_)))
    refine Ret.mk ?_
    show AV.v true [.d (.int .i64) 0, .d (.int .i64) 0] = AV.v true [.d (.int .i64) (pC p), .d (.int .i64) (pI p)]
    rw [List.drop_eq_nil_of_le (by omega)] at hC hI
    rw [hC, hI]; rfl

def rpC (p q : List Hk) : Int := if pC p ≠ 0 then pC p else pC q
def rpI (p q : List Hk) : Int := if pC p ≠ 0 then pI p else if pC q = 0 then 0 else -2
end Go.Proofs.YtppmhjaooiameaaDoor
