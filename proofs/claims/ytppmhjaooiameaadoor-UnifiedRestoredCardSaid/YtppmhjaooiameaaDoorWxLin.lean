/- The walks of lines.Validate, Second, Both. -/
import Derived.Test.YtppmhjaooiameaaDoorWxBase
namespace Go.Proofs.YtppmhjaooiameaaDoor
open Go.RowKit
set_option maxRecDepth 10000
set_option linter.unusedSimpArgs false

def faultAV (c i : Int) : AV := .v true [.d (.int .i64) c, .d (.int .i64) i]
def sp_IndexByte : SpecF := pureSp false [.str, .int .u8] (fun _ => True) (fun (a', b', _) => .v false [.d (.int .i64) (Lib.indexByte a'.data.toList b'.toNat.toUInt8)])
def sp_Validate : SpecF := pureSp true [.slice .str] (fun _ => True) (fun (a', _) => .v true [.d (.int .i64) (vC a'), .d (.int .i64) (vI a')])
theorem Validate_sp : SpFact 47 sp_Validate := by
  refine ⟨⟨Tryd.f47, rfl, rfl, rfl, pureSp_ok (env_fine (sp := [(60, sp_IndexByte)]) (eq := []) ⟨IndexByte_sp, True.intro⟩ True.intro) rfl (fun ⟨_, _⟩ _ => rfl) ?_⟩, pureSp_loc _ _ _ _⟩
  rintro ⟨l, u⟩ ⟨⟨hl, hs⟩, -⟩ -
  rw [maxLen_eq] at hl
  dsimp only at hl hs ⊢
  have hs : ∀ s ∈ l, s.size ≤ 9223372036854775807 := hs
  replace hs := Lib.hid hs
  (refine fnM_of rfl rfl rfl rfl ?_; dsimp only [params, argAV, Ty.leaves, Ty.isSt])
  (repeat' (first | (with_reducible refine Cend.go ?_) | (with_reducible refine Step.mk True.intro ?_) | (with_reducible refine Step.mk ?_ ?_; focus (((try simp only [true_and, and_true, and_self, kmin, kmax, decide_eq_true_eq, decide_eq_false_iff_not, castD_self, castL_self, List.length_cons, List.length_nil, List.length_append, Int.natCast_add] at *) <;> omega))) | (with_reducible refine Step.mk ?_ ?_) | (with_reducible refine Way.t1 ?_) | (with_reducible refine Way.f1 ?_) | ((with_reducible refine Way.dec (fun _ => ?_) (fun _ => ?_)) <;> try (exfalso; omega)) | (with_reducible refine Way.nt ?_) | (with_reducible refine Way.mk (fun _ => ?_) (fun _ => ?_)) | (with_reducible refine Drawn.mk (by kernel_rfl) ?_) | (refine Run.mk ?_)))
  · rename_i h1
    have h1 : 120 < l.length := by omega
    refine Ret.mk ?_
    show AV.v true [.d (.int .i64) 2, .d (.int .i64) (-1)] = _
    rw [show vC l = 2 from if_pos h1, show vI l = -1 from if_pos h1]
  rename_i h1
  have h1 : l.length ≤ 120 := by omega
  have hle := vIdx_le l
  refine loop_by (X := Nat) (fun k => [.put 2 (.v false [.p 2 0]), .put 9 (.v false [.d (.slice .str) l]), .put 10 (.v false [.d (.int .i64) (l.length : Int)]), .put 11 (.v false [.d (.int .i64) (k : Int)])]) (fun _ => [.put 2 (.box 27 [.d (.int .i64) 0, .d (.int .i64) 0])])
    (fun k => k ≤ vIdx l) (fun k => l.length - k) 0 (Nat.zero_le _) ?_ ?_
  · (refine Wk.keep ?_ ?_ <;> repeat' (first | exact True.intro | refine And.intro rfl ?_ | refine And.intro (congrArg (fun z : Int => AV.v false [Lf.d (.int .i64) z]) (by first | omega | (simp only [Int.natCast_add, List.length_cons, List.length_append, List.length_nil]; omega))) ?_ | refine And.intro ?_ ?_))
  intro k hk
  (try dsimp only)
  have hgd : ∀ h : k < l.length, l.getD k ByteArray.empty = l[k] := fun h => by rw [List.getD_eq_getElem?_getD, List.getElem?_eq_getElem h]; rfl
  have hsz : (l.getD k ByteArray.empty).size ≤ 9223372036854775807 := by
    by_cases h : k < l.length
    · rw [hgd h]; exact hs.out _ (List.getElem_mem h)
    · rw [List.getD_eq_getElem?_getD, List.getElem?_eq_none (by omega)]; decide
  have hbad : ∀ h : k < l.length, lineC (l.getD k ByteArray.empty) ≠ 0 → vC l = lineC (l.getD k ByteArray.empty) ∧ vI l = k := by
    intro h h2
    rw [hgd h] at h2 ⊢
    have e : k = vIdx l := by
      rcases Nat.lt_or_ge k (vIdx l) with q | q
      · exact absurd (line_ok l k q h) h2
      · omega
    subst e
    constructor
    · unfold vC; rw [if_neg (by omega), dif_pos h]
    · unfold vI; rw [if_neg (by omega), if_pos h]
  have hgood : ∀ h : k < l.length, lineC (l.getD k ByteArray.empty) = 0 → k + 1 ≤ vIdx l := by
    intro h h2
    rw [hgd h] at h2
    rcases Nat.lt_or_ge k (vIdx l) with q | q
    · omega
    · obtain rfl : k = vIdx l := by omega
      exact absurd h2 (line_bad l h)
  replace hbad := Lib.hid hbad
  replace hgood := Lib.hid hgood
  clear hgd
  generalize hS : l.getD k ByteArray.empty = S at hsz hbad hgood
  have hS : l.getD ((k : Int)).toNat Ty.str.dflt = S := hS
  have hib := indexByte_mem S.data.toList 10
  replace hib := Lib.hid hib
  (repeat' (first | (with_reducible refine Cend.go ?_) | (with_reducible refine Step.mk True.intro ?_) | (with_reducible refine Step.mk ?_ ?_; focus (((try simp only [true_and, and_true, and_self, kmin, kmax, decide_eq_true_eq, decide_eq_false_iff_not, castD_self, castL_self, List.length_cons, List.length_nil, List.length_append, Int.natCast_add] at *) <;> omega))) | (with_reducible refine Step.mk ?_ ?_) | (with_reducible refine Way.t1 ?_) | (with_reducible refine Way.f1 ?_) | ((with_reducible refine Way.dec (fun _ => ?_) (fun _ => ?_)) <;> try (exfalso; omega)) | (with_reducible refine Way.nt ?_) | (with_reducible refine Way.mk (fun _ => ?_) (fun _ => ?_)) | (with_reducible refine Drawn.mk (by kernel_rfl) ?_) | (refine Run.mk ?_)))
  · simp only [hS]; omega
  · rename_i h2 h3
    simp only [hS] at h3
    have h4 := lineC_long S (by omega)
    obtain ⟨q1, q2⟩ := hbad.out (by omega) (by rw [h4]; decide)
    refine Ret.mk ?_
    show AV.v true [.d (.int .i64) 2, .d (.int .i64) (k : Int)] = AV.v true [.d (.int .i64) (vC l), .d (.int .i64) (vI l)]
    rw [q1, q2, h4]
  · rename_i h2 h3 h4
    simp only [hS] at h3 h4
    have h5 := lineC_nl S (by omega) (hib.out.1 h4)
    obtain ⟨q1, q2⟩ := hbad.out (by omega) (by rw [h5]; decide)
    refine Ret.mk ?_
    show AV.v true [.d (.int .i64) 5, .d (.int .i64) (k : Int)] = AV.v true [.d (.int .i64) (vC l), .d (.int .i64) (vI l)]
    rw [q1, q2, h5]
  · rename_i h2 h3 h4
    simp only [hS] at h3 h4
    have h5 := hgood.out (by omega) ((lineC_ok S).2 ⟨by omega, fun h => h4 (hib.out.2 h)⟩)
    (refine Back.by (k + 1) ?_ ?_ ?_; focus (refine Wk.keep ?_ ?_ <;> repeat' (first | exact True.intro | refine And.intro rfl ?_ | refine And.intro (congrArg (fun z : Int => AV.v false [Lf.d (.int .i64) z]) (by first | omega | (simp only [Int.natCast_add, List.length_cons, List.length_append, List.length_nil]; omega))) ?_ | refine And.intro ?_ ?_)))
    · exact h5
    · show l.length - (k + 1) < l.length - k
      omega
  · rename_i h2
    refine Ret.mk ?_
    show AV.v true [.d (.int .i64) 0, .d (.int .i64) 0] = AV.v true [.d (.int .i64) (vC l), .d (.int .i64) (vI l)]
    have e : vIdx l = l.length := by omega
    rw [show vC l = 0 from by unfold vC; rw [if_neg (by omega), dif_neg (by omega)], show vI l = 0 from by unfold vI; rw [if_neg (by omega), if_neg (by omega)]]

def sp_Second : SpecF := pureSp true [.slice .str, .int .i64] (fun _ => True) (fun (a', b', _) => .v true [.d (.int .i64) (vC a'), .d (.int .i64) (if vC a' = 0 then 0 else b')])
theorem Second_sp : SpFact 26 sp_Second := by
  refine ⟨⟨Tryd.f26, rfl, rfl, rfl, pureSp_ok (env_fine (sp := [(47, sp_Validate)]) (eq := [(27, true)]) ⟨Validate_sp, True.intro⟩ ⟨eq_fault, True.intro⟩) rfl (fun ⟨_, _, _⟩ _ => rfl) ?_⟩, pureSp_loc _ _ _ _⟩
  rintro ⟨l, i, u⟩ - -
  (refine fnM_of rfl rfl rfl rfl ?_; dsimp only [params, argAV, Ty.leaves, Ty.isSt])
  (repeat' (first | (with_reducible refine Cend.go ?_) | (with_reducible refine Step.mk True.intro ?_) | (with_reducible refine Step.mk ?_ ?_; focus (((try simp only [true_and, and_true, and_self, kmin, kmax, decide_eq_true_eq, decide_eq_false_iff_not, castD_self, castL_self, List.length_cons, List.length_nil, List.length_append, Int.natCast_add] at *) <;> omega))) | (with_reducible refine Step.mk ?_ ?_) | (with_reducible refine Way.t1 ?_) | (with_reducible refine Way.f1 ?_) | ((with_reducible refine Way.dec (fun _ => ?_) (fun _ => ?_)) <;> try (exfalso; omega)) | (with_reducible refine Way.nt ?_) | (with_reducible refine Way.mk (fun _ => ?_) (fun _ => ?_)) | (with_reducible refine Drawn.mk (by kernel_rfl) ?_) | (refine Run.mk ?_)))
  · rename_i h1
    have h1 : (decide (vC l = 0) && decide (vI l = 0)) = true := h1
    have h1 : vC l = 0 ∧ vI l = 0 := by simpa using h1
    refine Ret.mk ?_
    show AV.v true [.d (.int .i64) 0, .d (.int .i64) 0] = AV.v true [.d (.int .i64) (vC l), .d (.int .i64) (if vC l = 0 then 0 else i)]
    rw [if_pos h1.1, h1.1]
  · rename_i h1
    have h1 : (decide (vC l = 0) && decide (vI l = 0)) = false := h1
    have h1 : ¬ (vC l = 0 ∧ vI l = 0) := by simpa using h1
    refine Ret.mk ?_
    show AV.v true [.d (.int .i64) (vC l), .d (.int .i64) i] = AV.v true [.d (.int .i64) (vC l), .d (.int .i64) (if vC l = 0 then 0 else i)]
    rw [if_neg fun h => h1 ⟨h, vI_good l ((vC_good l).1 h)⟩]

end Go.Proofs.YtppmhjaooiameaaDoor
