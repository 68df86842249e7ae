/- The walk of the reference's Align. -/
import Derived.Test.YtppmhjaooiameaaWxRefSuf
import Derived.Test.YtppmhjaooiameaaStpPure
namespace Go.Proofs.Ytppmhjaooiameaa
open Go.RowKit
set_option maxRecDepth 10000
set_option linter.unusedSimpArgs false

@[reducible] def tStep : Ty := .st (.pair (.int .i64) .str)
def sp_RAl : SpecF := pureSp false [.slice .str, .slice .str] (fun (a', b', _) => a'.length ≤ 120 ∧ b'.length ≤ 120) (fun (a', b', _) => .v false [.d (.slice tStep) (steps a' b')])
theorem RAl_sp : SpFact 62 sp_RAl := by
  refine ⟨⟨Try.f62, rfl, rfl, rfl, pureSp_okF (env_fine (sp := [(73, sp_Suf)]) (eq := []) ⟨Suf_sp, True.intro⟩ True.intro) rfl (fun ⟨_, _, _⟩ _ => rfl) ?_⟩, pureSp_loc _ _ _ _⟩
  rintro ⟨a, b, u⟩ - ⟨ha, hb⟩
  change List ByteArray at a b
  replace ha : a.length ≤ 120 := ha
  replace hb : b.length ≤ 120 := hb
  have hT1 := tabL_len a b
  have hT2 := tabL_at a b
  replace hT2 := Lib.hid hT2
  (refine fnM_of rfl rfl rfl rfl ?_; dsimp only [params, argAV, Ty.leaves, Ty.isSt])
  (repeat' (first | (with_reducible refine Cend.go ?_) | (with_reducible refine Step.mk True.intro ?_) | (with_reducible refine Step.mk ?_ ?_; focus (((try simp only [true_and, and_true, and_self, kmin, kmax, decide_eq_true_eq, decide_eq_false_iff_not, castD_self, castL_self, List.length_cons, List.length_nil, List.length_append, Int.natCast_add] at *) <;> omega))) | (with_reducible refine Step.mk ?_ ?_) | (with_reducible refine Way.t1 ?_) | (with_reducible refine Way.f1 ?_) | ((with_reducible refine Way.dec (fun _ => ?_) (fun _ => ?_)) <;> try (exfalso; omega)) | (with_reducible refine Way.nt ?_) | (with_reducible refine Way.mk (fun _ => ?_) (fun _ => ?_)) | (with_reducible refine Drawn.mk (by kernel_rfl) ?_) | (refine Run.mk ?_)))
  refine loop_by (X := Nat × Nat × List (Int × ByteArray)) (fun x => [.put 0 (.v false [.d (.slice .str) a]), .put 1 (.v false [.d (.slice .str) b]), .put 5 (.v false [.d (.slice tRow) (tabL a b)]), .put 6 (.v false [.o 91]), .put 7 (.v false [.d (.int .i64) (x.1 : Int)]), .put 8 (.v false [.d (.int .i64) (x.2.1 : Int)])])
    (fun x => [.put 91 (.row 110 tStep x.2.2)])
    (fun x => x.1 ≤ a.length ∧ x.2.1 ≤ b.length ∧ steps a b = x.2.2 ++ stp (align (a.drop x.1) (b.drop x.2.1)) (a.drop x.1) (b.drop x.2.1) ∧ x.2.2.length ≤ x.1 + x.2.1) (fun x => (a.length - x.1) + (b.length - x.2.1)) (0, 0, []) ⟨Nat.zero_le _, Nat.zero_le _, rfl, Nat.zero_le _⟩ ?_ ?_
  · refine (Wk.nilrow 6 91 110 tStep rfl).trans ?_
    (refine Wk.keep ?_ ?_ <;> repeat' (first | exact True.intro | refine And.intro rfl ?_ | refine And.intro (congrArg (fun z : Int => AV.v false [Lf.d (.int .i64) z]) (by first | omega | (simp only [Int.natCast_add, List.length_cons, List.length_append, List.length_nil]; omega))) ?_ | refine And.intro ?_ ?_))
  rintro ⟨i, j, o⟩ ⟨hi, hj, hs, ho⟩
  dsimp only at hi hj hs ho ⊢
  by_cases hi' : i < a.length
  · have ga := getD_at (a := a) Ty.str.dflt hi'
    by_cases hj' : j < b.length
    · have gb := getD_at (a := b) Ty.str.dflt hj'
      have hal := drop_align a b i j hi' hj'
      have c1 : ((tabL a b).getD ((j : Int)).toNat tRow.dflt).length = a.length + 1 := by rw [Int.toNat_natCast, hT2.out j hj, colL_len]
      have c2 : ((tabL a b).getD ((j : Int) + 1).toNat tRow.dflt).length = a.length + 1 := by rw [show ((j : Int) + 1).toNat = j + 1 by omega, hT2.out (j + 1) hj', colL_len]
      have g1 : ((tabL a b).getD ((j : Int)).toNat tRow.dflt).getD ((i : Int) + 1).toNat (Ty.int .i64).dflt = ((lcs (a.drop (i + 1)) (b.drop j) : Nat) : Int) := by rw [Int.toNat_natCast, hT2.out j hj, show ((i : Int) + 1).toNat = i + 1 by omega]; exact colL_at a b j (i + 1) hi' _
      have g2 : ((tabL a b).getD ((j : Int) + 1).toNat tRow.dflt).getD ((i : Int)).toNat (Ty.int .i64).dflt = ((lcs (a.drop i) (b.drop (j + 1)) : Nat) : Int) := by rw [show ((j : Int) + 1).toNat = j + 1 by omega, hT2.out (j + 1) hj']; exact colL_at a b (j + 1) i hi _
      rw [← ga, ← gb] at hal
      replace hal := Lib.hid hal
      replace hs := Lib.hid hs
      replace ga := Lib.hid ga
      replace gb := Lib.hid gb
      replace g1 := Lib.hid g1
      replace g2 := Lib.hid g2
      (repeat' (first | (with_reducible refine Cend.go ?_) | (with_reducible refine Step.mk True.intro ?_) | (with_reducible refine Step.mk ?_ ?_; focus (((try simp only [true_and, and_true, and_self, kmin, kmax, decide_eq_true_eq, decide_eq_false_iff_not, castD_self, castL_self, List.length_cons, List.length_nil, List.length_append, Int.natCast_add] at *) <;> omega))) | (with_reducible refine Step.mk ?_ ?_) | (with_reducible refine Way.t1 ?_) | (with_reducible refine Way.f1 ?_) | ((with_reducible refine Way.dec (fun _ => ?_) (fun _ => ?_)) <;> try (exfalso; omega)) | (with_reducible refine Way.nt ?_) | (with_reducible refine Way.mk (fun _ => ?_) (fun _ => ?_)) | (with_reducible refine Drawn.mk (by kernel_rfl) ?_) | (refine Run.mk ?_)))
      · rename_i h4
        have hab : a.getD ((i : Int)).toNat Ty.str.dflt = b.getD ((j : Int)).toNat Ty.str.dflt := h4
        have hs := hs.out
        rw [hal.out, if_pos hab, stp_keep _ _ _ _ _ hi' hj', ← ga.out] at hs
        (apply Back.by ((i + 1, j + 1, _)); focus (refine Wk.ren [(91, 50)] rfl ?_ ?_ <;> repeat' (first | exact True.intro | refine And.intro rfl ?_ | refine And.intro (congrArg (fun z : Int => AV.v false [Lf.d (.int .i64) z]) (by first | omega | (simp only [Int.natCast_add, List.length_cons, List.length_append, List.length_nil]; omega))) ?_ | refine And.intro ?_ ?_)))
        · exact ⟨hi', hj', by rw [hs]; exact (List.append_assoc _ [_] _).symm, by show (o ++ [_]).length ≤ i + 1 + (j + 1); rw [List.length_append, List.length_singleton]; omega⟩
        · show (a.length - (i + 1)) + (b.length - (j + 1)) < (a.length - i) + (b.length - j); omega
      · rename_i h4 h5 h6 h7
        have hab : ¬ a.getD ((i : Int)).toNat Ty.str.dflt = b.getD ((j : Int)).toNat Ty.str.dflt := h4
        have h7 : lcs (a.drop i) (b.drop (j + 1)) ≤ lcs (a.drop (i + 1)) (b.drop j) := by
          have h7' : ((tabL a b).getD ((j : Int) + 1).toNat tRow.dflt).getD ((i : Int)).toNat (Ty.int .i64).dflt ≤ ((tabL a b).getD ((j : Int)).toNat tRow.dflt).getD ((i : Int) + 1).toNat (Ty.int .i64).dflt := h7
          rw [g1.out, g2.out] at h7'
          exact Int.ofNat_le.1 h7'
        have hs := hs.out
        rw [hal.out, if_neg hab, if_pos h7, stp_del _ _ _ _ _ hi', ← ga.out] at hs
        (apply Back.by ((i + 1, j, _)); focus (refine Wk.ren [(91, 91)] rfl ?_ ?_ <;> repeat' (first | exact True.intro | refine And.intro rfl ?_ | refine And.intro (congrArg (fun z : Int => AV.v false [Lf.d (.int .i64) z]) (by first | omega | (simp only [Int.natCast_add, List.length_cons, List.length_append, List.length_nil]; omega))) ?_ | refine And.intro ?_ ?_)))
        · exact ⟨hi', hj, by rw [hs]; exact (List.append_assoc _ [_] _).symm, by show (o ++ [_]).length ≤ i + 1 + j; rw [List.length_append, List.length_singleton]; omega⟩
        · show (a.length - (i + 1)) + (b.length - j) < (a.length - i) + (b.length - j); omega
      · rename_i h4 h5 h6 h7
        have hab : ¬ a.getD ((i : Int)).toNat Ty.str.dflt = b.getD ((j : Int)).toNat Ty.str.dflt := h4
        have h7 : ¬ lcs (a.drop i) (b.drop (j + 1)) ≤ lcs (a.drop (i + 1)) (b.drop j) := by
          have h7' : ¬ ((tabL a b).getD ((j : Int) + 1).toNat tRow.dflt).getD ((i : Int)).toNat (Ty.int .i64).dflt ≤ ((tabL a b).getD ((j : Int)).toNat tRow.dflt).getD ((i : Int) + 1).toNat (Ty.int .i64).dflt := h7
          rw [g1.out, g2.out] at h7'
          exact fun q => h7' (Int.ofNat_le.2 q)
        have hs := hs.out
        rw [hal.out, if_neg hab, if_neg h7, stp_ins _ _ _ _ _ hj', ← gb.out] at hs
        (apply Back.by ((i, j + 1, _)); focus (refine Wk.ren [(91, 101)] rfl ?_ ?_ <;> repeat' (first | exact True.intro | refine And.intro rfl ?_ | refine And.intro (congrArg (fun z : Int => AV.v false [Lf.d (.int .i64) z]) (by first | omega | (simp only [Int.natCast_add, List.length_cons, List.length_append, List.length_nil]; omega))) ?_ | refine And.intro ?_ ?_)))
        · exact ⟨hi, hj', by rw [hs]; exact (List.append_assoc _ [_] _).symm, by show (o ++ [_]).length ≤ i + (j + 1); rw [List.length_append, List.length_singleton]; omega⟩
        · show (a.length - i) + (b.length - (j + 1)) < (a.length - i) + (b.length - j); omega
    · obtain rfl : j = b.length := by omega
      rw [drop_align_del a b i hi', stp_del _ _ _ _ _ hi', ← ga] at hs
      replace hs := Lib.hid hs
      replace ga := Lib.hid ga
      (repeat' (first | (with_reducible refine Cend.go ?_) | (with_reducible refine Step.mk True.intro ?_) | (with_reducible refine Step.mk ?_ ?_; focus (((try simp only [true_and, and_true, and_self, kmin, kmax, decide_eq_true_eq, decide_eq_false_iff_not, castD_self, castL_self, List.length_cons, List.length_nil, List.length_append, Int.natCast_add] at *) <;> omega))) | (with_reducible refine Step.mk ?_ ?_) | (with_reducible refine Way.t1 ?_) | (with_reducible refine Way.f1 ?_) | ((with_reducible refine Way.dec (fun _ => ?_) (fun _ => ?_)) <;> try (exfalso; omega)) | (with_reducible refine Way.nt ?_) | (with_reducible refine Way.mk (fun _ => ?_) (fun _ => ?_)) | (with_reducible refine Drawn.mk (by kernel_rfl) ?_) | (refine Run.mk ?_)))
      (apply Back.by ((i + 1, b.length, _)); focus (refine Wk.ren [(91, 91)] rfl ?_ ?_ <;> repeat' (first | exact True.intro | refine And.intro rfl ?_ | refine And.intro (congrArg (fun z : Int => AV.v false [Lf.d (.int .i64) z]) (by first | omega | (simp only [Int.natCast_add, List.length_cons, List.length_append, List.length_nil]; omega))) ?_ | refine And.intro ?_ ?_)))
      · exact ⟨hi', Nat.le_refl _, by rw [hs.out]; exact (List.append_assoc _ [_] _).symm, by show (o ++ [_]).length ≤ i + 1 + b.length; rw [List.length_append, List.length_singleton]; omega⟩
      · show (a.length - (i + 1)) + (b.length - b.length) < (a.length - i) + (b.length - b.length); omega
  · obtain rfl : i = a.length := by omega
    by_cases hj' : j < b.length
    · have gb := getD_at (a := b) Ty.str.dflt hj'
      rw [drop_align_ins a b j hj', stp_ins _ _ _ _ _ hj', ← gb] at hs
      replace hs := Lib.hid hs
      replace gb := Lib.hid gb
      (repeat' (first | (with_reducible refine Cend.go ?_) | (with_reducible refine Step.mk True.intro ?_) | (with_reducible refine Step.mk ?_ ?_; focus (((try simp only [true_and, and_true, and_self, kmin, kmax, decide_eq_true_eq, decide_eq_false_iff_not, castD_self, castL_self, List.length_cons, List.length_nil, List.length_append, Int.natCast_add] at *) <;> omega))) | (with_reducible refine Step.mk ?_ ?_) | (with_reducible refine Way.t1 ?_) | (with_reducible refine Way.f1 ?_) | ((with_reducible refine Way.dec (fun _ => ?_) (fun _ => ?_)) <;> try (exfalso; omega)) | (with_reducible refine Way.nt ?_) | (with_reducible refine Way.mk (fun _ => ?_) (fun _ => ?_)) | (with_reducible refine Drawn.mk (by kernel_rfl) ?_) | (refine Run.mk ?_)))
      (apply Back.by ((a.length, j + 1, _)); focus (refine Wk.ren [(91, 101)] rfl ?_ ?_ <;> repeat' (first | exact True.intro | refine And.intro rfl ?_ | refine And.intro (congrArg (fun z : Int => AV.v false [Lf.d (.int .i64) z]) (by first | omega | (simp only [Int.natCast_add, List.length_cons, List.length_append, List.length_nil]; omega))) ?_ | refine And.intro ?_ ?_)))
      · exact ⟨Nat.le_refl _, hj', by rw [hs.out]; exact (List.append_assoc _ [_] _).symm, by show (o ++ [_]).length ≤ a.length + (j + 1); rw [List.length_append, List.length_singleton]; omega⟩
      · show (a.length - a.length) + (b.length - (j + 1)) < (a.length - a.length) + (b.length - j); omega
    · obtain rfl : j = b.length := by omega
      rw [List.drop_length, List.drop_length] at hs
      (repeat' (first | (with_reducible refine Cend.go ?_) | (with_reducible refine Step.mk True.intro ?_) | (with_reducible refine Step.mk ?_ ?_; focus (((try simp only [true_and, and_true, and_self, kmin, kmax, decide_eq_true_eq, decide_eq_false_iff_not, castD_self, castL_self, List.length_cons, List.length_nil, List.length_append, Int.natCast_add] at *) <;> omega))) | (with_reducible refine Step.mk ?_ ?_) | (with_reducible refine Way.t1 ?_) | (with_reducible refine Way.f1 ?_) | ((with_reducible refine Way.dec (fun _ => ?_) (fun _ => ?_)) <;> try (exfalso; omega)) | (with_reducible refine Way.nt ?_) | (with_reducible refine Way.mk (fun _ => ?_) (fun _ => ?_)) | (with_reducible refine Drawn.mk (by kernel_rfl) ?_) | (refine Run.mk ?_)))
      refine Ret.mk ?_
      rw [show steps a b = o from hs.trans (List.append_nil o)]
      exact ⟨rfl, .frz rfl, True.intro⟩
end Go.Proofs.Ytppmhjaooiameaa
