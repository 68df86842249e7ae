/- The walk of lines.Common, and the law LinesCommonMatchesSpec. -/
import Derived.Test.YtehdgnnelabajaaLinAff
import Derived.Test.YtehdgnnelabajaaWxPair
import Derived.Test.YtehdgnnelabajaaWxRefTwo
namespace Go.Proofs.Ytehdgnnelabajaa
open Go.RowKit
set_option maxRecDepth 10000
set_option linter.unusedSimpArgs false

def cP (a b : List ByteArray) : Nat := if bC a b = 0 then cpre a b else 0
def cS (a b : List ByteArray) : Nat := if bC a b = 0 then csuf (a.drop (cpre a b)) (b.drop (cpre a b)) else 0
theorem str_at {l : List ByteArray} {k : Nat} (h : k < l.length) : l.getD k Ty.str.dflt = l[k] := by rw [List.getD_eq_getElem?_getD, List.getElem?_eq_getElem h]; rfl
def sp_LCommon : SpecF := pureSp false [.slice .str, .slice .str] (fun _ => True) (fun (a', b', _) => .tu [(false, [.d (.int .i64) (cP a' b' : Int)]), (false, [.d (.int .i64) (cS a' b' : Int)]), (true, [.d (.int .i64) (bC a' b'), .d (.int .i64) (bI a' b')])])
theorem LCommon_sp : SpFact 21 sp_LCommon := by
  refine ⟨⟨Try.f21, rfl, rfl, rfl, pureSp_ok (env_fine (sp := [(40, sp_Both)]) (eq := [(24, true)]) ⟨Both_sp, True.intro⟩ ⟨eq_fault, True.intro⟩) rfl (fun ⟨_, _, _⟩ _ => rfl) ?_⟩, pureSp_loc _ _ _ _⟩
  rintro ⟨a, b, u⟩ - -
  change List ByteArray at a b
  by_cases h0 : bC a b = 0
  · obtain ⟨ha, hb, hi⟩ := bgood h0
    have e1 : cP a b = cpre a b := if_pos h0
    have e2 : cS a b = csuf (a.drop (cpre a b)) (b.drop (cpre a b)) := if_pos h0
    dsimp only
    rw [e1, e2]
    have hf : (decide (bC a b = 0) && decide (bI a b = 0)) = true := by rw [bfault, decide_eq_true h0]
    replace hf := Lib.hid hf
    rw [h0, hi]
    clear h0 hi e1 e2
    (refine fnM_of rfl rfl rfl rfl ?_; dsimp only [params, argAV, Ty.leaves, Ty.isSt])
    (repeat' (first | (with_reducible refine Step.mk True.intro ?_) | (with_reducible refine Step.mk ?_ ?_; focus (((try simp only [true_and, and_true, and_self, kmin, kmax, decide_eq_true_eq, decide_eq_false_iff_not, castD_self, castL_self, List.length_cons, List.length_nil, List.length_append, Int.natCast_add] at *) <;> omega))) | (with_reducible refine Step.mk ?_ ?_) | (with_reducible refine Way.t1 ?_) | (with_reducible refine Way.f1 ?_) | ((with_reducible refine Way.dec (fun _ => ?_) (fun _ => ?_)) <;> try (exfalso; omega)) | (with_reducible refine Way.nt ?_) | ((with_reducible refine Way.mk (fun _ => ?_) (fun _ => ?_)) <;> try (exfalso; rename_i hw; first | exact Bool.noConfusion ((Go.RowKit.Hid.out hf).symm.trans hw) | exact Bool.noConfusion (hw.symm.trans (Go.RowKit.Hid.out hf)))) | (with_reducible refine Drawn.mk (by kernel_rfl) ?_) | (refine Run.mk ?_)))
    refine loop_by (X := Nat) (fun k => [.put 0 (.v false [.d (.slice .str) a]), .put 1 (.v false [.d (.slice .str) b]), .put 6 (.v false [.p 6 0]), .put 8 (.v false [.d (.int .i64) (k : Int)])]) (fun _ => [.put 6 (.box 24 [.d (.int .i64) 0, .d (.int .i64) 0])])
      (fun k => k ≤ a.length ∧ k ≤ b.length ∧ a.take k = b.take k) (fun k => a.length - k) 0 ⟨Nat.zero_le _, Nat.zero_le _, rfl⟩ ?_ ?_
    · (refine Wk.keep ?_ ?_ <;> repeat' (first | exact True.intro | refine And.intro rfl ?_ | refine And.intro (congrArg (fun z : Int => AV.v false [Lf.d (.int .i64) z]) (by first | omega | (simp only [Int.natCast_add, List.length_cons, List.length_append, List.length_nil]; omega))) ?_ | refine And.intro ?_ ?_))
    rintro k ⟨h1, h2, h3⟩
    dsimp only at h1 h2 h3 ⊢
    have hcp : (∀ (h : k < a.length) (h' : k < b.length), a[k] ≠ b[k]) → cpre a b = k := cpre_eq h1 h2 h3
    by_cases hk : k < a.length ∧ k < b.length ∧ a.getD ((k : Int)).toNat Ty.str.dflt = b.getD ((k : Int)).toNat Ty.str.dflt
    · obtain ⟨g1, g2, g3⟩ := hk
      have g3' : a[k] = b[k] := by
        have q := g3
        rw [Int.toNat_natCast, str_at g1, str_at g2] at q
        exact q
      have h4 := aff_take g1 g2 h3 g3'
      replace h3 := Lib.hid h3
      replace h4 := Lib.hid h4
      replace hcp := Lib.hid hcp
      replace g3' := Lib.hid g3'
      replace g3 := Lib.hid g3
      (repeat' (first | (with_reducible refine Step.mk True.intro ?_) | (with_reducible refine Step.mk ?_ ?_; focus (((try simp only [true_and, and_true, and_self, kmin, kmax, decide_eq_true_eq, decide_eq_false_iff_not, castD_self, castL_self, List.length_cons, List.length_nil, List.length_append, Int.natCast_add] at *) <;> omega))) | (with_reducible refine Step.mk ?_ ?_) | (with_reducible refine Way.t1 ?_) | (with_reducible refine Way.f1 ?_) | ((with_reducible refine Way.dec (fun _ => ?_) (fun _ => ?_)) <;> try (exfalso; omega)) | (with_reducible refine Way.nt ?_) | (with_reducible refine Way.mk (fun _ => ?_) (fun _ => ?_)) | (with_reducible refine Drawn.mk (by kernel_rfl) ?_) | (refine Run.mk ?_)))
      · (refine Back.by (k + 1) ?_ ?_ ?_; focus (refine Wk.keep ?_ ?_ <;> repeat' (first | exact True.intro | refine And.intro rfl ?_ | refine And.intro (congrArg (fun z : Int => AV.v false [Lf.d (.int .i64) z]) (by first | omega | (simp only [Int.natCast_add, List.length_cons, List.length_append, List.length_nil]; omega))) ?_ | refine And.intro ?_ ?_)))
        · exact ⟨g1, g2, h4.out⟩
        · show a.length - (k + 1) < a.length - k; omega
      all_goals (rename_i q; exact absurd g3.out q)
    · have hc : cpre a b = k := hcp fun h h' e => hk ⟨h, h', by rw [Int.toNat_natCast, str_at h, str_at h']; exact e⟩
      have hla : (a.drop k).length = a.length - k := List.length_drop
      have hlb : (b.drop k).length = b.length - k := List.length_drop
      rw [hc]
      have hA : List.drop ((k : Int)).toNat (List.take (((a.length : Nat) : Int)).toNat a) = a.drop k := by simp
      have hB : List.drop ((k : Int)).toNat (List.take (((b.length : Nat) : Int)).toNat b) = b.drop k := by simp
      have tail : ∀ (A B : List ByteArray), A.length ≤ 120 → B.length ≤ 120 → ∀ m : Nat, m ≤ A.length → m ≤ B.length → A.drop (A.length - m) = B.drop (B.length - m) →
          (m < A.length ∧ m < B.length ∧ A.getD ((((A.length : Nat) : Int) - 1 - (m : Int))).toNat Ty.str.dflt = B.getD ((((B.length : Nat) : Int) - 1 - (m : Int))).toNat Ty.str.dflt ∧ A.drop (A.length - (m + 1)) = B.drop (B.length - (m + 1))) ∨
          (csuf A B = m ∧ ¬ (m < A.length ∧ m < B.length ∧ A.getD ((((A.length : Nat) : Int) - 1 - (m : Int))).toNat Ty.str.dflt = B.getD ((((B.length : Nat) : Int) - 1 - (m : Int))).toNat Ty.str.dflt)) := by
        intro A B _ _ m g1 g2 g3
        have ix : ∀ C : List ByteArray, m < C.length → C.getD ((((C.length : Nat) : Int) - 1 - (m : Int))).toNat Ty.str.dflt = C[C.length - 1 - m]! := by
          intro C hC
          have e : ((((C.length : Nat) : Int) - 1 - (m : Int))).toNat = C.length - 1 - m := by omega
          rw [e, str_at (by omega), getElem!_pos C _ (by omega)]
        by_cases q : m < A.length ∧ m < B.length ∧ A.getD ((((A.length : Nat) : Int) - 1 - (m : Int))).toNat Ty.str.dflt = B.getD ((((B.length : Nat) : Int) - 1 - (m : Int))).toNat Ty.str.dflt
        · refine .inl ⟨q.1, q.2.1, q.2.2, aff_drop q.1 q.2.1 g3 ?_⟩
          have := q.2.2
          rw [ix A q.1, ix B q.2.1, getElem!_pos A _ (by omega), getElem!_pos B _ (by omega)] at this
          exact this
        · refine .inr ⟨csuf_eq g1 g2 g3 fun h h' e => q ⟨h, h', ?_⟩, q⟩
          rw [ix A h, ix B h', getElem!_pos A _ (by omega), getElem!_pos B _ (by omega)]
          exact e
      have tl := tail (a.drop k) (b.drop k) (by omega) (by omega)
      clear tail
      have hk0 : ∀ (_ : k < a.length) (_ : k < b.length), a.getD ((k : Int)).toNat Ty.str.dflt = b.getD ((k : Int)).toNat Ty.str.dflt → False := fun x y z => hk ⟨x, y, z⟩
      replace hk0 := Lib.hid hk0
      replace tl := Lib.hid tl
      replace hA := Lib.hid hA
      replace hB := Lib.hid hB
      replace hk := Lib.hid hk
      replace h3 := Lib.hid h3
      clear hcp hc
      (repeat' (first | (with_reducible refine Step.mk True.intro ?_) | (with_reducible refine Step.mk ?_ ?_; focus (((try simp only [true_and, and_true, and_self, kmin, kmax, decide_eq_true_eq, decide_eq_false_iff_not, castD_self, castL_self, List.length_cons, List.length_nil, List.length_append, Int.natCast_add] at *) <;> omega))) | (with_reducible refine Step.mk ?_ ?_) | (with_reducible refine Way.t1 ?_) | (with_reducible refine Way.f1 ?_) | ((with_reducible refine Way.dec (fun _ => ?_) (fun _ => ?_)) <;> try (exfalso; omega)) | (with_reducible refine Way.nt ?_) | (with_reducible refine Way.mk (fun _ => ?_) (fun _ => ?_)) | (with_reducible refine Drawn.mk (by kernel_rfl) ?_) | (refine Run.mk ?_)))
      · rename_i q1 q2 q3
        exact (hk0.out (by omega) (by omega) q3).elim
      all_goals
        rw [hA.out, hB.out]
        clear hA hB hk hk0 h3
        generalize a.drop k = A at tl hla
        generalize b.drop k = B at tl hlb
        refine loop_by (X := Nat) (fun m => [.put 0 (.v false [.d (.slice .str) A]), .put 1 (.v false [.d (.slice .str) B]), .put 6 (.v false [.p 6 0]), .put 8 (.v false [.d (.int .i64) (k : Int)]), .put 9 (.v false [.d (.int .i64) (m : Int)])]) (fun _ => [.put 6 (.box 24 [.d (.int .i64) 0, .d (.int .i64) 0])])
          (fun m => m ≤ A.length ∧ m ≤ B.length ∧ A.drop (A.length - m) = B.drop (B.length - m)) (fun m => A.length - m) 0 ⟨Nat.zero_le _, Nat.zero_le _, by simp⟩ ?_ ?_
        · (refine Wk.keep ?_ ?_ <;> repeat' (first | exact True.intro | refine And.intro rfl ?_ | refine And.intro (congrArg (fun z : Int => AV.v false [Lf.d (.int .i64) z]) (by first | omega | (simp only [Int.natCast_add, List.length_cons, List.length_append, List.length_nil]; omega))) ?_ | refine And.intro ?_ ?_))
        rintro m ⟨g1, g2, g3⟩
        (try dsimp only at g1 g2 g3); (try dsimp only)
        rcases tl.out m g1 g2 g3 with ⟨t1, t2, t3, t4⟩ | ⟨t1, t2⟩
        · replace g3 := Lib.hid g3
          replace t3 := Lib.hid t3
          replace t4 := Lib.hid t4
          (repeat' (first | (with_reducible refine Step.mk True.intro ?_) | (with_reducible refine Step.mk ?_ ?_; focus (((try simp only [true_and, and_true, and_self, kmin, kmax, decide_eq_true_eq, decide_eq_false_iff_not, castD_self, castL_self, List.length_cons, List.length_nil, List.length_append, Int.natCast_add] at *) <;> omega))) | (with_reducible refine Step.mk ?_ ?_) | (with_reducible refine Way.t1 ?_) | (with_reducible refine Way.f1 ?_) | ((with_reducible refine Way.dec (fun _ => ?_) (fun _ => ?_)) <;> try (exfalso; omega)) | (with_reducible refine Way.nt ?_) | (with_reducible refine Way.mk (fun _ => ?_) (fun _ => ?_)) | (with_reducible refine Drawn.mk (by kernel_rfl) ?_) | (refine Run.mk ?_)))
          all_goals first
            | (rename_i q; exact absurd t3.out q)
            | ((refine Back.by (m + 1) ?_ ?_ ?_; focus (refine Wk.keep ?_ ?_ <;> repeat' (first | exact True.intro | refine And.intro rfl ?_ | refine And.intro (congrArg (fun z : Int => AV.v false [Lf.d (.int .i64) z]) (by first | omega | (simp only [Int.natCast_add, List.length_cons, List.length_append, List.length_nil]; omega))) ?_ | refine And.intro ?_ ?_)))
               · exact ⟨t1, t2, t4.out⟩
               · show A.length - (m + 1) < A.length - m; omega)
        · rw [t1]
          have t3 : ∀ (_ : m < A.length) (_ : m < B.length), A.getD ((((A.length : Nat) : Int) - 1 - (m : Int))).toNat Ty.str.dflt = B.getD ((((B.length : Nat) : Int) - 1 - (m : Int))).toNat Ty.str.dflt → False := fun x y z => t2 ⟨x, y, z⟩
          replace g3 := Lib.hid g3
          replace t2 := Lib.hid t2
          replace t3 := Lib.hid t3
          clear t1
          (repeat' (first | (with_reducible refine Step.mk True.intro ?_) | (with_reducible refine Step.mk ?_ ?_; focus (((try simp only [true_and, and_true, and_self, kmin, kmax, decide_eq_true_eq, decide_eq_false_iff_not, castD_self, castL_self, List.length_cons, List.length_nil, List.length_append, Int.natCast_add] at *) <;> omega))) | (with_reducible refine Step.mk ?_ ?_) | (with_reducible refine Way.t1 ?_) | (with_reducible refine Way.f1 ?_) | ((with_reducible refine Way.dec (fun _ => ?_) (fun _ => ?_)) <;> try (exfalso; omega)) | (with_reducible refine Way.nt ?_) | (with_reducible refine Way.mk (fun _ => ?_) (fun _ => ?_)) | (with_reducible refine Drawn.mk (by kernel_rfl) ?_) | (refine Run.mk ?_)))
          all_goals first
            | exact Ret.mk rfl
            | (rename_i q1 q2 q3; exact (t3.out (by omega) (by omega) q3).elim)
  · have e1 : cP a b = 0 := if_neg h0
    have e2 : cS a b = 0 := if_neg h0
    dsimp only
    rw [e1, e2]
    have hf : (decide (bC a b = 0) && decide (bI a b = 0)) = false := by rw [bfault, decide_eq_false h0]
    replace hf := Lib.hid hf
    (refine fnM_of rfl rfl rfl rfl ?_; dsimp only [params, argAV, Ty.leaves, Ty.isSt])
    (repeat' (first | (with_reducible refine Step.mk True.intro ?_) | (with_reducible refine Step.mk ?_ ?_; focus (((try simp only [true_and, and_true, and_self, kmin, kmax, decide_eq_true_eq, decide_eq_false_iff_not, castD_self, castL_self, List.length_cons, List.length_nil, List.length_append, Int.natCast_add] at *) <;> omega))) | (with_reducible refine Step.mk ?_ ?_) | (with_reducible refine Way.t1 ?_) | (with_reducible refine Way.f1 ?_) | ((with_reducible refine Way.dec (fun _ => ?_) (fun _ => ?_)) <;> try (exfalso; omega)) | (with_reducible refine Way.nt ?_) | ((with_reducible refine Way.mk (fun _ => ?_) (fun _ => ?_)) <;> try (exfalso; rename_i hw; first | exact Bool.noConfusion ((Go.RowKit.Hid.out hf).symm.trans hw) | exact Bool.noConfusion (hw.symm.trans (Go.RowKit.Hid.out hf)))) | (with_reducible refine Drawn.mk (by kernel_rfl) ?_) | (refine Run.mk ?_)))
    exact Ret.mk rfl

theorem law_LinesCommonMatchesSpec : SpFact 8 (pureSp false [.slice .str, .slice .str] (fun _ => True) (fun _ => .v false [.d .bool true])) := by
  refine ⟨⟨Try.f8, rfl, rfl, rfl, pureSp_ok (env1_fine (sp := [(21, sp_LCommon), (22, sp_TwoF), (17, sp_Strings), (18, sp_pair)]) (eq := [(24, true)]) (inl := []) (cl := [])
    ⟨LCommon_sp, TwoF_sp, Strings_sp, pair_sp, True.intro⟩ ⟨eq_fault, True.intro⟩ True.intro) rfl (fun _ _ => rfl) ?_⟩, pureSp_loc _ _ _ _⟩
  rintro ⟨a, b, u⟩ - -
  change List ByteArray at a b
  by_cases h0 : bC a b = 0
  · obtain ⟨ha, hb, hi⟩ := bgood h0
    have e1 : cP a b = cpre a b := if_pos h0
    have e2 : cS a b = csuf (a.drop (cpre a b)) (b.drop (cpre a b)) := if_pos h0
    obtain ⟨p1, p2, p3, p4, p5, p6⟩ := aff_facts a b
    rw [← e2] at p4; rw [← e2, ← e1] at p1 p2 p6
    rw [← e1] at p3 p5
    clear e1 e2
    have hb0 : bC (castD (rfl : Ty.slice .str = .slice .str) a) (castD (rfl : Ty.slice .str = .slice .str) b) = 0 := h0
    obtain ⟨p, hp⟩ : ∃ p, cP (castD (rfl : Ty.slice .str = .slice .str) a) (castD (rfl : Ty.slice .str = .slice .str) b) = p := ⟨_, rfl⟩
    obtain ⟨s, hs⟩ : ∃ s, cS (castD (rfl : Ty.slice .str = .slice .str) a) (castD (rfl : Ty.slice .str = .slice .str) b) = s := ⟨_, rfl⟩
    have hp' : cP a b = p := hp
    have hs' : cS a b = s := hs
    rw [hp', hs'] at p1 p2 p6
    rw [hp'] at p3 p5
    rw [hs'] at p4
    clear hp' hs' h0 hi
    replace p3 := Lib.hid p3
    replace p4 := Lib.hid p4
    replace p5 := Lib.hid p5
    replace p6 := Lib.hid p6
    (refine fnM_of rfl rfl rfl rfl ?_; dsimp only [params, argAV, Ty.leaves, Ty.isSt])
    (repeat' (first | (with_reducible refine Step.mk True.intro ?_) | (with_reducible refine Step.mk ?_ ?_; focus (((try simp only [true_and, and_true, and_self, kmin, kmax, decide_eq_true_eq, decide_eq_false_iff_not, castD_self, castL_self, List.length_cons, List.length_nil, List.length_append, Int.natCast_add] at *) <;> omega))) | (with_reducible refine Step.mk ?_ ?_) | (with_reducible refine Way.t1 ?_) | (with_reducible refine Way.f1 ?_) | ((with_reducible refine Way.dec (fun _ => ?_) (fun _ => ?_)) <;> try (exfalso; omega)) | (with_reducible refine Way.nt ?_) | (with_reducible refine Way.mk (fun _ => ?_) (fun _ => ?_)) | (with_reducible refine Drawn.mk (by kernel_rfl) ?_) | (refine Run.mk ?_)))
    (all_goals first | exact Ret.mk rfl | (rename_i q; exact absurd rfl q) | (rename_i q; simp [castD_self, castL_self] at q; done) | skip)
    · rename_i z1 z2 z3
      rw [hp, Int.toNat_natCast] at z3
      exact absurd z3 (p5.out (by omega) (by omega))
    · rename_i z1 z2 z3 z4 z5 z6 z7
      rw [hs] at z7
      have e1 : ((((a.length : Nat) : Int) - (s : Int) - 1)).toNat = a.length - s - 1 := by omega
      have e2 : ((((b.length : Nat) : Int) - (s : Int) - 1)).toNat = b.length - s - 1 := by omega
      rw [e1, e2] at z7
      exact absurd z7 (p6.out (by omega) (by omega))
    · rename_i z
      rw [hs] at z
      have e1 : ((((a.length : Nat) : Int) - (s : Int))).toNat = a.length - s := by omega
      have e2 : ((((b.length : Nat) : Int) - (s : Int))).toNat = b.length - s := by omega
      rw [e1, e2, Int.toNat_natCast, Int.toNat_natCast, List.take_length, List.take_length] at z
      exact absurd p4.out z
    · rename_i z
      rw [hp, Int.toNat_natCast] at z
      exact absurd p3.out z
  · have hb0 : ¬ bC (castD (rfl : Ty.slice .str = .slice .str) a) (castD (rfl : Ty.slice .str = .slice .str) b) = 0 := h0
    have hp : cP (castD (rfl : Ty.slice .str = .slice .str) a) (castD (rfl : Ty.slice .str = .slice .str) b) = 0 := if_neg h0
    have hs : cS (castD (rfl : Ty.slice .str = .slice .str) a) (castD (rfl : Ty.slice .str = .slice .str) b) = 0 := if_neg h0
    clear h0
    (refine fnM_of rfl rfl rfl rfl ?_; dsimp only [params, argAV, Ty.leaves, Ty.isSt])
    (repeat' (first | (with_reducible refine Step.mk True.intro ?_) | (with_reducible refine Step.mk ?_ ?_; focus (((try simp only [true_and, and_true, and_self, kmin, kmax, decide_eq_true_eq, decide_eq_false_iff_not, castD_self, castL_self, List.length_cons, List.length_nil, List.length_append, Int.natCast_add] at *) <;> omega))) | (with_reducible refine Step.mk ?_ ?_) | (with_reducible refine Way.t1 ?_) | (with_reducible refine Way.f1 ?_) | ((with_reducible refine Way.dec (fun _ => ?_) (fun _ => ?_)) <;> try (exfalso; omega)) | (with_reducible refine Way.nt ?_) | (with_reducible refine Way.mk (fun _ => ?_) (fun _ => ?_)) | (with_reducible refine Drawn.mk (by kernel_rfl) ?_) | (refine Run.mk ?_)))
    (all_goals first | exact Ret.mk rfl | (rename_i q; exact absurd rfl q) | (rename_i q; simp [castD_self, castL_self] at q; done) | skip)
end Go.Proofs.Ytehdgnnelabajaa
