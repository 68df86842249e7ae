/- The walks of textpatch: hunk, Validate, Made. -/
import Derived.Test.YtppmhjaooiameaaDoorWxEq
import Derived.Test.YtppmhjaooiameaaDoorPatPure
namespace Go.Proofs.YtppmhjaooiameaaDoor
open Go.RowKit
set_option maxRecDepth 10000
set_option linter.unusedSimpArgs false

def sp_hunk : SpecF := pureSp false [tHk, .int .i64] (fun _ => True) (fun (h', e', _) => .v false [.d (.int .i64) (hkC h' e')])
theorem hunk_sp : SpFact 46 sp_hunk := by
  refine ⟨⟨Tryd.f46, rfl, rfl, rfl, pureSp_ok (env1_fine (sp := [(47, sp_Validate)]) (eq := [(27, true)]) (inl := [(17, Tryd.f17)]) (cl := []) ⟨Validate_sp, True.intro⟩ ⟨eq_fault, True.intro⟩ ⟨⟨rfl, rfl, rfl⟩, True.intro⟩) rfl (fun ⟨_, _, _⟩ _ => rfl) ?_⟩, pureSp_loc _ _ _ _⟩
  rintro ⟨⟨a, o, n⟩, e, u⟩ - -
  change Int at a e
  change List ByteArray at o n
  have k1 := vC_len o
  have k2 := vC_len n
  replace k1 := Lib.hid k1
  replace k2 := Lib.hid k2
  (refine fnM_of rfl rfl rfl rfl ?_; dsimp only [params, argAV, Ty.leaves, Ty.isSt])
  (repeat' (first | (with_reducible refine Cend.go ?_) | (with_reducible refine Step.mk True.intro ?_) | (with_reducible refine Step.mk ?_ ?_; focus (((try simp only [true_and, and_true, and_self, kmin, kmax, decide_eq_true_eq, decide_eq_false_iff_not, castD_self, castL_self, List.length_cons, List.length_nil, List.length_append, Int.natCast_add] at *) <;> omega))) | (with_reducible refine Step.mk ?_ ?_) | (with_reducible refine Way.t1 ?_) | (with_reducible refine Way.f1 ?_) | ((with_reducible refine Way.dec (fun _ => ?_) (fun _ => ?_)) <;> try (exfalso; omega)) | (with_reducible refine Way.nt ?_) | (with_reducible refine Way.mk (fun _ => ?_) (fun _ => ?_)) | (with_reducible refine Drawn.mk (by kernel_rfl) ?_) | (refine Run.mk ?_)))
  · rename_i h1
    have h1 : a < 0 := h1
    exact Ret.mk (by show AV.v false [.d (.int .i64) 3] = _; rw [show hkC (a, o, n) e = 3 from if_pos (.inl h1)])
  · rename_i h1
    have h1 : 120 < a := h1
    exact Ret.mk (by show AV.v false [.d (.int .i64) 3] = _; rw [show hkC (a, o, n) e = 3 from if_pos (.inr h1)])
  rename_i a1 a2
  have a1 : ¬ a < 0 := a1
  have a2 : ¬ 120 < a := a2
  refine loop_by (X := Nat) (fun x => [.put 1 (.v false [.d (.int .i64) e]), .put 2 (.v false [.p 2 0]), .put 20 (.v true [.d (.slice .str) o, .d (.slice .str) n]), .put 21 (.v false [.d (.int .i64) (x : Int)])])
    (fun _ => [.put 2 (.box 41 [.d (.int .i64) a, .d (.slice .str) o, .d (.slice .str) n])]) (fun x => x ≤ 2 ∧ (0 < x → vC o = 0) ∧ (1 < x → vC n = 0)) (fun x => 2 - x) 0 ⟨by omega, by omega, by omega⟩ ?_ ?_
  · (refine Wk.keep ?_ ?_ <;> repeat' (first | exact True.intro | refine And.intro rfl ?_ | refine And.intro (congrArg (fun z : Int => AV.v false [Lf.d (.int .i64) z]) (by first | omega | (simp only [Int.natCast_add, List.length_cons, List.length_append, List.length_nil]; omega))) ?_ | refine And.intro ?_ ?_))
  rintro x ⟨hx, h1, h2⟩
  dsimp only at hx h1 h2 ⊢
  obtain rfl | rfl | rfl : x = 0 ∨ x = 1 ∨ x = 2 := by omega
  · clear h1 h2
    (repeat' (first | (with_reducible refine Cend.go ?_) | (with_reducible refine Step.mk True.intro ?_) | (with_reducible refine Step.mk ?_ ?_; focus (((try simp only [true_and, and_true, and_self, kmin, kmax, decide_eq_true_eq, decide_eq_false_iff_not, castD_self, castL_self, List.length_cons, List.length_nil, List.length_append, Int.natCast_add] at *) <;> omega))) | (with_reducible refine Step.mk ?_ ?_) | (with_reducible refine Way.t1 ?_) | (with_reducible refine Way.f1 ?_) | ((with_reducible refine Way.dec (fun _ => ?_) (fun _ => ?_)) <;> try (exfalso; omega)) | (with_reducible refine Way.nt ?_) | (with_reducible refine Way.mk (fun _ => ?_) (fun _ => ?_)) | (with_reducible refine Drawn.mk (by kernel_rfl) ?_) | (refine Run.mk ?_)))
    · rename_i h
      have h : vC o = 0 := fault_eq h
      (refine Back.by (1) ?_ ?_ ?_; focus (refine Wk.keep ?_ ?_ <;> repeat' (first | exact True.intro | refine And.intro rfl ?_ | refine And.intro (congrArg (fun z : Int => AV.v false [Lf.d (.int .i64) z]) (by first | omega | (simp only [Int.natCast_add, List.length_cons, List.length_append, List.length_nil]; omega))) ?_ | refine And.intro ?_ ?_)))
      · exact ⟨by omega, fun _ => h, by omega⟩
      · show 2 - 1 < 2 - 0; omega
    · rename_i h
      have h : ¬ vC o = 0 := fault_ne h (fun q => vI_good o ((vC_good o).1 q))
      refine Ret.mk ?_
      show AV.v false [.d (.int .i64) (vC o)] = _
      rw [show hkC (a, o, n) e = vC o from by unfold hkC; rw [if_neg (fun q => q.elim a1 a2), if_pos h]]
  · have h1 : vC o = 0 := h1 (by omega)
    clear h2
    (repeat' (first | (with_reducible refine Cend.go ?_) | (with_reducible refine Step.mk True.intro ?_) | (with_reducible refine Step.mk ?_ ?_; focus (((try simp only [true_and, and_true, and_self, kmin, kmax, decide_eq_true_eq, decide_eq_false_iff_not, castD_self, castL_self, List.length_cons, List.length_nil, List.length_append, Int.natCast_add] at *) <;> omega))) | (with_reducible refine Step.mk ?_ ?_) | (with_reducible refine Way.t1 ?_) | (with_reducible refine Way.f1 ?_) | ((with_reducible refine Way.dec (fun _ => ?_) (fun _ => ?_)) <;> try (exfalso; omega)) | (with_reducible refine Way.nt ?_) | (with_reducible refine Way.mk (fun _ => ?_) (fun _ => ?_)) | (with_reducible refine Drawn.mk (by kernel_rfl) ?_) | (refine Run.mk ?_)))
    · rename_i h
      have h : vC n = 0 := fault_eq h
      (refine Back.by (2) ?_ ?_ ?_; focus (refine Wk.keep ?_ ?_ <;> repeat' (first | exact True.intro | refine And.intro rfl ?_ | refine And.intro (congrArg (fun z : Int => AV.v false [Lf.d (.int .i64) z]) (by first | omega | (simp only [Int.natCast_add, List.length_cons, List.length_append, List.length_nil]; omega))) ?_ | refine And.intro ?_ ?_)))
      · exact ⟨by omega, fun _ => h1, fun _ => h⟩
      · show 2 - 2 < 2 - 1; omega
    · rename_i h
      have h : ¬ vC n = 0 := fault_ne h (fun q => vI_good n ((vC_good n).1 q))
      refine Ret.mk ?_
      show AV.v false [.d (.int .i64) (vC n)] = _
      rw [show hkC (a, o, n) e = vC n from by unfold hkC; rw [if_neg (fun q => q.elim a1 a2), if_neg (by rw [h1]; decide), if_pos h]]
  · have h1 : vC o = 0 := h1 (by omega)
    have h2 : vC n = 0 := h2 (by omega)
    have l1 := k1.out h1
    have l2 := k2.out h2
    have hres : hkC (a, o, n) e = if o.length + n.length = 0 ∨ a ≤ e then 5 else if 120 < a + o.length then 3 else 0 := by
      unfold hkC; rw [if_neg (fun q => q.elim a1 a2), if_neg (by rw [h1]; decide), if_neg (by rw [h2]; decide)]
    clear k1 k2 h1 h2 hx
    (repeat' (first | (with_reducible refine Cend.go ?_) | (with_reducible refine Step.mk True.intro ?_) | (with_reducible refine Step.mk ?_ ?_; focus (((try simp only [true_and, and_true, and_self, kmin, kmax, decide_eq_true_eq, decide_eq_false_iff_not, castD_self, castL_self, List.length_cons, List.length_nil, List.length_append, Int.natCast_add] at *) <;> omega))) | (with_reducible refine Step.mk ?_ ?_) | (with_reducible refine Way.t1 ?_) | (with_reducible refine Way.f1 ?_) | ((with_reducible refine Way.dec (fun _ => ?_) (fun _ => ?_)) <;> try (exfalso; omega)) | (with_reducible refine Way.nt ?_) | (with_reducible refine Way.mk (fun _ => ?_) (fun _ => ?_)) | (with_reducible refine Drawn.mk (by kernel_rfl) ?_) | (refine Run.mk ?_)))
    · refine Ret.mk ?_
      show AV.v false [.d (.int .i64) 5] = AV.v false [.d (.int .i64) (hkC (a, o, n) e)]
      rw [hres, if_pos (by omega)]
    · refine Ret.mk ?_
      show AV.v false [.d (.int .i64) 5] = AV.v false [.d (.int .i64) (hkC (a, o, n) e)]
      rw [hres, if_pos (by omega)]
    · refine Ret.mk ?_
      show AV.v false [.d (.int .i64) 3] = AV.v false [.d (.int .i64) (hkC (a, o, n) e)]
      rw [hres, if_neg (by omega), if_pos (by omega)]
    · refine Ret.mk ?_
      show AV.v false [.d (.int .i64) 0] = AV.v false [.d (.int .i64) (hkC (a, o, n) e)]
      rw [hres, if_neg (by omega), if_neg (by omega)]

theorem phC_step {p : List Hk} {k : Nat} (h : k < p.length) (e : Int) : phC e (p.drop k) = if hkC p[k] e = 0 then phC (hkEnd p[k]) (p.drop (k + 1)) else hkC p[k] e := by
  rw [List.drop_eq_getElem_cons h]; rfl
theorem phI_step {p : List Hk} {k : Nat} (h : k < p.length) (e i : Int) : phI e i (p.drop k) = if hkC p[k] e = 0 then phI (hkEnd p[k]) (i + 1) (p.drop (k + 1)) else i := by
  rw [List.drop_eq_getElem_cons h]; rfl
def sp_PValidate : SpecF := pureSp true [tPat] (fun _ => True) (fun (p', _) => .v true [.d (.int .i64) (pC p'), .d (.int .i64) (pI p')])
theorem PValidate_sp : SpFact 25 sp_PValidate := by
  refine ⟨⟨Tryd.f25, rfl, rfl, rfl, pureSp_ok (env1_fine (sp := [(46, sp_hunk)]) (eq := []) (inl := [(17, Tryd.f17)]) (cl := []) ⟨hunk_sp, True.intro⟩ True.intro ⟨⟨rfl, rfl, rfl⟩, True.intro⟩) rfl (fun ⟨_, _⟩ _ => rfl) ?_⟩, pureSp_loc _ _ _ _⟩
  rintro ⟨p, u⟩ ⟨⟨hl, -⟩, -⟩ -
  change List Hk at p
  rw [maxLen_eq] at hl
  dsimp only at hl
  (refine fnM_of rfl rfl rfl rfl ?_; dsimp only [params, argAV, Ty.leaves, Ty.isSt])
  (repeat' (first | (with_reducible refine Cend.go ?_) | (with_reducible refine Step.mk True.intro ?_) | (with_reducible refine Step.mk ?_ ?_; focus (((try simp only [true_and, and_true, and_self, kmin, kmax, decide_eq_true_eq, decide_eq_false_iff_not, castD_self, castL_self, List.length_cons, List.length_nil, List.length_append, Int.natCast_add] at *) <;> omega))) | (with_reducible refine Step.mk ?_ ?_) | (with_reducible refine Way.t1 ?_) | (with_reducible refine Way.f1 ?_) | ((with_reducible refine Way.dec (fun _ => ?_) (fun _ => ?_)) <;> try (exfalso; omega)) | (with_reducible refine Way.nt ?_) | (with_reducible refine Way.mk (fun _ => ?_) (fun _ => ?_)) | (with_reducible refine Drawn.mk (by kernel_rfl) ?_) | (refine Run.mk ?_)))
  · rename_i h1
    have h1 : 130 < p.length := by omega
    refine Ret.mk ?_
    show AV.v true [.d (.int .i64) 2, .d (.int .i64) (-1)] = AV.v true [.d (.int .i64) (pC p), .d (.int .i64) (pI p)]
    rw [show pC p = 2 from if_pos h1, show pI p = -1 from if_pos h1]
  rename_i h1
  have h1 : ¬ 130 < p.length := by omega
  refine loop_by (X := Nat × Int) (fun x => [.put 2 (.v false [.p 2 0]), .put 3 (.v false [.d (.int .i64) x.2]), .put 13 (.v false [.d (.slice tHk) p]), .put 14 (.v false [.d (.int .i64) (p.length : Int)]), .put 15 (.v false [.d (.int .i64) (x.1 : Int)])])
    (fun _ => [.put 2 (.box 27 [.d (.int .i64) 0, .d (.int .i64) 0])]) (fun x => x.1 ≤ p.length ∧ pC p = phC x.2 (p.drop x.1) ∧ pI p = phI x.2 x.1 (p.drop x.1)) (fun x => p.length - x.1) (0, -1) ⟨Nat.zero_le _, if_neg h1, if_neg h1⟩ ?_ ?_
  · (refine Wk.keep ?_ ?_ <;> repeat' (first | exact True.intro | refine And.intro rfl ?_ | refine And.intro (congrArg (fun z : Int => AV.v false [Lf.d (.int .i64) z]) (by first | omega | (simp only [Int.natCast_add, List.length_cons, List.length_append, List.length_nil]; omega))) ?_ | refine And.intro ?_ ?_))
  rintro ⟨k, e⟩ ⟨hk, hC, hI⟩
  dsimp only at hk hC hI ⊢
  by_cases hlt : k < p.length
  · have hg := getD_at (a := p) tHk.dflt hlt
    rw [phC_step hlt] at hC
    rw [phI_step hlt] at hI
    replace hC := Lib.hid hC
    replace hI := Lib.hid hI
    have gg : hkC (p.getD ((k : Int)).toNat tHk.dflt) e = 0 → 0 ≤ (p.getD ((k : Int)).toNat tHk.dflt).1 ∧ (p.getD ((k : Int)).toNat tHk.dflt).1 ≤ 120 ∧ (p.getD ((k : Int)).toNat tHk.dflt).2.1.length ≤ 120 := fun h => by
      obtain ⟨q1, q2, q3, -⟩ := hkC_good.1 h
      exact ⟨q1, q2, vC_len _ q3⟩
    replace gg := Lib.hid gg
    replace hg := Lib.hid hg
    (repeat' (first | (with_reducible refine Cend.go ?_) | (with_reducible refine Step.mk True.intro ?_) | (with_reducible refine Step.mk ?_ ?_; focus (((try simp only [true_and, and_true, and_self, kmin, kmax, decide_eq_true_eq, decide_eq_false_iff_not, castD_self, castL_self, List.length_cons, List.length_nil, List.length_append, Int.natCast_add] at *) <;> omega))) | (with_reducible refine Step.mk ?_ ?_) | (with_reducible refine Way.t1 ?_) | (with_reducible refine Way.f1 ?_) | ((with_reducible refine Way.dec (fun _ => ?_) (fun _ => ?_)) <;> try (exfalso; omega)) | (with_reducible refine Way.nt ?_) | (with_reducible refine Way.mk (fun _ => ?_) (fun _ => ?_)) | (with_reducible refine Drawn.mk (by kernel_rfl) ?_) | (refine Run.mk ?_)))
    · rename_i h
      have h : hkC (p.getD ((k : Int)).toNat tHk.dflt) e = 0 := by first | exact h | exact Classical.not_not.1 h
      have := gg.out h
      show (((p.getD ((k : Int)).toNat tHk.dflt).2.1.length : Nat) : Int) ≤ _
      omega
    · rename_i h
      have h : hkC (p.getD ((k : Int)).toNat tHk.dflt) e = 0 := by first | exact h | exact Classical.not_not.1 h
      have := gg.out h
      show (-9223372036854775808 : Int) ≤ (p.getD ((k : Int)).toNat tHk.dflt).1 + (((p.getD ((k : Int)).toNat tHk.dflt).2.1.length : Nat) : Int) ∧ (p.getD ((k : Int)).toNat tHk.dflt).1 + (((p.getD ((k : Int)).toNat tHk.dflt).2.1.length : Nat) : Int) ≤ 9223372036854775807
      omega
    · rename_i h
      have h : hkC (p.getD ((k : Int)).toNat tHk.dflt) e = 0 := by first | exact h | exact Classical.not_not.1 h
      have hC' := hC.out
      have hI' := hI.out
      rw [hg.out] at h
      rw [if_pos h] at hC' hI'
      (refine Back.by ((k + 1, hkEnd (p.getD ((k : Int)).toNat tHk.dflt))) ?_ ?_ ?_; focus (refine Wk.keep ?_ ?_ <;> repeat' (first | exact True.intro | refine And.intro rfl ?_ | refine And.intro (congrArg (fun z : Int => AV.v false [Lf.d (.int .i64) z]) (by first | omega | (simp only [Int.natCast_add, List.length_cons, List.length_append, List.length_nil]; omega))) ?_ | refine And.intro ?_ ?_)))
      · rw [hg.out]
        exact ⟨hlt, hC', hI'⟩
      · show p.length - (k + 1) < p.length - k; omega
    · rename_i h
      have h : ¬ hkC (p.getD ((k : Int)).toNat tHk.dflt) e = 0 := h
      have hC' := hC.out
      have hI' := hI.out
      refine Ret.mk ?_
      show AV.v true [.d (.int .i64) (hkC (p.getD ((k : Int)).toNat tHk.dflt) e), .d (.int .i64) (k : Int)] = AV.v true [.d (.int .i64) (pC p), .d (.int .i64) (pI p)]
      rw [hg.out] at h ⊢
      rw [if_neg h] at hC' hI'
      rw [hC', hI']
  · (repeat' (first | (with_reducible refine Cend.go ?_) | (with_reducible refine Step.mk True.intro ?_) | (with_reducible refine Step.mk ?_ ?_; focus (((try simp only [true_and, and_true, and_self, kmin, kmax, decide_eq_true_eq, decide_eq_false_iff_not, castD_self, castL_self, List.length_cons, List.length_nil, List.length_append, Int.natCast_add] at *) <;> omega))) | (with_reducible refine Step.mk ?_ ?_) | (with_reducible refine Way.t1 ?_) | (with_reducible refine Way.f1 ?_) | ((with_reducible refine Way.dec (fun _ => ?_) (fun _ => ?_)) <;> try (exfalso; omega)) | (with_reducible refine Way.nt ?_) | (with_reducible refine Way.mk (fun _ => ?_) (fun _ => ?_)) | (with_reducible refine Drawn.mk (by kernel_rfl) ?_) | (refine Run.mk ?_)))
    refine Ret.mk ?_
    show AV.v true [.d (.int .i64) 0, .d (.int .i64) 0] = AV.v true [.d (.int .i64) (pC p), .d (.int .i64) (pI p)]
    rw [List.drop_eq_nil_of_le (by omega)] at hC hI
    rw [hC, hI]; rfl
end Go.Proofs.YtppmhjaooiameaaDoor
