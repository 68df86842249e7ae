/- Equality of chunks; opposed (printed from WxM3D, WxM3G). -/
import Derived.Test.YtppmhjaooiameaaWxMerge
import Derived.Test.YtppmhjaooiameaaWxEq
namespace Go.Proofs.Ytppmhjaooiameaa
open Go.RowKit
set_option maxRecDepth 10000
set_option linter.unusedSimpArgs false

theorem ch_ext {a b : Ch} (h1 : a.1 = b.1) (h2 : a.2.1 = b.2.1) (h3 : a.2.2.1 = b.2.2.1) (h4 : a.2.2.2.1 = b.2.2.2.1) (h5 : a.2.2.2.2 = b.2.2.2.2) : a = b := Prod.ext h1 (Prod.ext h2 (Prod.ext h3 (Prod.ext h4 h5)))
def sp_Chunks : SpecF := pureSp true [.slice tCh, .slice tCh] (fun _ => True) (fun (a', b', _) => .v false [.d .bool (decide (a' = b'))])
theorem Chunks_sp : SpFact 11 sp_Chunks := by
  refine ⟨⟨Try.f11, rfl, rfl, rfl, pureSp_ok (env_fine (sp := [(15, sp_Strings)]) (eq := []) ⟨Strings_sp, True.intro⟩ True.intro) rfl (fun ⟨_, _, _⟩ _ => rfl) ?_⟩, pureSp_loc _ _ _ _⟩
  rintro ⟨a, b, u⟩ ⟨⟨ha, -⟩, ⟨hb, -⟩, -⟩ -
  change List Ch at a b
  rw [maxLen_eq] at ha hb
  have ha : a.length ≤ 9223372036854775807 := ha
  have hb : b.length ≤ 9223372036854775807 := hb
  (refine fnM_of rfl rfl rfl rfl ?_; dsimp only [params, argAV, Ty.leaves, Ty.isSt])
  (repeat' (first | (with_reducible refine Cend.go ?_) | (with_reducible refine Step.mk True.intro ?_) | (with_reducible refine Step.mk ?_ ?_; focus (((try simp only [true_and, and_true, and_self, kmin, kmax, decide_eq_true_eq, decide_eq_false_iff_not, castD_self, castL_self, List.length_cons, List.length_nil, List.length_append, Int.natCast_add] at *) <;> omega))) | (with_reducible refine Step.mk ?_ ?_) | (with_reducible refine Way.t1 ?_) | (with_reducible refine Way.f1 ?_) | ((with_reducible refine Way.dec (fun _ => ?_) (fun _ => ?_)) <;> try (exfalso; omega)) | (with_reducible refine Way.nt ?_) | (with_reducible refine Way.mk (fun _ => ?_) (fun _ => ?_)) | (with_reducible refine Drawn.mk (by kernel_rfl) ?_) | (refine Run.mk ?_)))
  · rename_i h
    have h : a.length = b.length := by omega
    refine loop_by (X := Nat) (fun i => [.put 0 (.v false [.d (.slice tCh) a]), .put 1 (.v false [.d (.slice tCh) b]), .put 5 (.v false [.d (.int .i64) (i : Int)])]) (fun _ => []) (fun i => i ≤ a.length ∧ a.take i = b.take i) (fun i => a.length - i) 0 ⟨Nat.zero_le _, rfl⟩ ?_ ?_
    · (refine Wk.keep ?_ ?_ <;> repeat' (first | exact True.intro | refine And.intro rfl ?_ | refine And.intro (congrArg (fun z : Int => AV.v false [Lf.d (.int .i64) z]) (by first | omega | (simp only [Int.natCast_add, List.length_cons, List.length_append, List.length_nil]; omega))) ?_ | refine And.intro ?_ ?_))
    rintro i ⟨hi, ht⟩
    by_cases hlt : i < a.length
    · have ga := getD_at (a := a) tCh.dflt hlt
      have gb := getD_at (a := b) tCh.dflt (show i < b.length by omega)
      have no : (¬ (a.getD ((i : Int)).toNat tCh.dflt) = b.getD ((i : Int)).toNat tCh.dflt) → ¬ a = b := fun h2 => by
        rw [ga, gb] at h2
        exact ne_at hlt (show i < b.length by omega) h2
      replace ht := Lib.hid ht
      replace ga := Lib.hid ga
      replace gb := Lib.hid gb
      replace no := Lib.hid no
      (repeat' (first | (with_reducible refine Cend.go ?_) | (with_reducible refine Step.mk True.intro ?_) | (with_reducible refine Step.mk ?_ ?_; focus (((try simp only [true_and, and_true, and_self, kmin, kmax, decide_eq_true_eq, decide_eq_false_iff_not, castD_self, castL_self, List.length_cons, List.length_nil, List.length_append, Int.natCast_add] at *) <;> omega))) | (with_reducible refine Step.mk ?_ ?_) | (with_reducible refine Way.t1 ?_) | (with_reducible refine Way.f1 ?_) | ((with_reducible refine Way.dec (fun _ => ?_) (fun _ => ?_)) <;> try (exfalso; omega)) | (with_reducible refine Way.nt ?_) | (with_reducible refine Way.mk (fun _ => ?_) (fun _ => ?_)) | (with_reducible refine Drawn.mk (by kernel_rfl) ?_) | (refine Run.mk ?_)))
      · rename_i x1 x2 x3 x4 x5
        have h2 : a.getD ((i : Int)).toNat tCh.dflt = b.getD ((i : Int)).toNat tCh.dflt := ch_ext x1 x2 x3 x4 x5
        rw [ga.out, gb.out] at h2
        (refine Back.by (i + 1) ?_ ?_ ?_; focus (refine Wk.keep ?_ ?_ <;> repeat' (first | exact True.intro | refine And.intro rfl ?_ | refine And.intro (congrArg (fun z : Int => AV.v false [Lf.d (.int .i64) z]) (by first | omega | (simp only [Int.natCast_add, List.length_cons, List.length_append, List.length_nil]; omega))) ?_ | refine And.intro ?_ ?_)))
        · exact ⟨hlt, take_next hlt (by omega) ht.out h2⟩
        · show a.length - (i + 1) < a.length - i; omega
      · rename_i x1 x2 x3 x4 x5
        (refine Ret.mk (show AV.v false [Lf.d .bool false] = AV.v false [Lf.d .bool _] from congrArg (fun z => AV.v false [Lf.d .bool z]) (Eq.symm (decide_eq_false (no.out fun e => x5 (congrArg (fun z : Ch => z.2.2.2.2) e))))))
      · rename_i x1 x2 x3 x4
        (refine Ret.mk (show AV.v false [Lf.d .bool false] = AV.v false [Lf.d .bool _] from congrArg (fun z => AV.v false [Lf.d .bool z]) (Eq.symm (decide_eq_false (no.out fun e => x4 (congrArg (fun z : Ch => z.2.2.2.1) e))))))
      · rename_i x1 x2 x3
        (refine Ret.mk (show AV.v false [Lf.d .bool false] = AV.v false [Lf.d .bool _] from congrArg (fun z => AV.v false [Lf.d .bool z]) (Eq.symm (decide_eq_false (no.out fun e => x3 (congrArg (fun z : Ch => z.2.2.1) e))))))
      · rename_i x1 x2
        (refine Ret.mk (show AV.v false [Lf.d .bool false] = AV.v false [Lf.d .bool _] from congrArg (fun z => AV.v false [Lf.d .bool z]) (Eq.symm (decide_eq_false (no.out fun e => x2 (congrArg (fun z : Ch => z.2.1) e))))))
      · rename_i x1
        (refine Ret.mk (show AV.v false [Lf.d .bool false] = AV.v false [Lf.d .bool _] from congrArg (fun z => AV.v false [Lf.d .bool z]) (Eq.symm (decide_eq_false (no.out fun e => x1 (congrArg (fun z : Ch => z.1) e))))))
    · (repeat' (first | (with_reducible refine Cend.go ?_) | (with_reducible refine Step.mk True.intro ?_) | (with_reducible refine Step.mk ?_ ?_; focus (((try simp only [true_and, and_true, and_self, kmin, kmax, decide_eq_true_eq, decide_eq_false_iff_not, castD_self, castL_self, List.length_cons, List.length_nil, List.length_append, Int.natCast_add] at *) <;> omega))) | (with_reducible refine Step.mk ?_ ?_) | (with_reducible refine Way.t1 ?_) | (with_reducible refine Way.f1 ?_) | ((with_reducible refine Way.dec (fun _ => ?_) (fun _ => ?_)) <;> try (exfalso; omega)) | (with_reducible refine Way.nt ?_) | (with_reducible refine Way.mk (fun _ => ?_) (fun _ => ?_)) | (with_reducible refine Drawn.mk (by kernel_rfl) ?_) | (refine Run.mk ?_)))
      have : a = b := take_eq_all h (by rw [show a.length = i by omega]; exact ht)
      (refine Ret.mk (show AV.v false [Lf.d .bool true] = AV.v false [Lf.d .bool _] from congrArg (fun z => AV.v false [Lf.d .bool z]) (Eq.symm (decide_eq_true this))))
  · rename_i h
    (refine Ret.mk (show AV.v false [Lf.d .bool false] = AV.v false [Lf.d .bool _] from congrArg (fun z => AV.v false [Lf.d .bool z]) (Eq.symm (decide_eq_false (by rintro rfl; exact h rfl)))))

def cA : ByteArray := { data := #[97] }
def cB : ByteArray := { data := #[98] }
def cC : ByteArray := { data := #[99] }
theorem mg_abc : mgV [cA] [cB] [cC] = [(true, [], [cA], [cB], [cC])] := by decide +kernel
theorem mg_abc0 : mgC [cA] [cB] [cC] = 0 := by decide +kernel
def sp_opp : SpecF := pureSp false [] (fun _ => True) (fun _ => .v false [.d .bool true])
theorem opposed_sp : SpFact 12 sp_opp := by
  refine ⟨⟨Try.f12, rfl, rfl, rfl, pureSp_ok (env1_fine (sp := [(9, sp_Merge), (11, sp_Chunks)]) (eq := []) (inl := []) (cl := [4, 5, 6, 15, 16, 17, 19]) ⟨Merge_sp, Chunks_sp, True.intro⟩ True.intro True.intro) rfl (fun _ _ => rfl) ?_⟩, pureSp_loc _ _ _ _⟩
  rintro u - -
  have e1 := mg_abc
  have e2 := mg_abc0
  unfold cA cB cC at e1 e2
  (refine fnM_of rfl rfl rfl rfl ?_; dsimp only [params, argAV, Ty.leaves, Ty.isSt])
  (repeat' (first | (with_reducible refine Cend.go ?_) | (with_reducible refine Step.mk True.intro ?_) | (with_reducible refine Step.mk ?_ ?_; focus (((try simp only [true_and, and_true, and_self, kmin, kmax, decide_eq_true_eq, decide_eq_false_iff_not, castD_self, castL_self, List.length_cons, List.length_nil, List.length_append, Int.natCast_add] at *) <;> omega))) | (with_reducible refine Step.mk ?_ ?_) | (with_reducible refine Way.t1 ?_) | (with_reducible refine Way.f1 ?_) | ((with_reducible refine Way.dec (fun _ => ?_) (fun _ => ?_)) <;> try (exfalso; omega)) | (with_reducible refine Way.nt ?_) | (with_reducible refine Way.mk (fun _ => ?_) (fun _ => ?_)) | (with_reducible refine Drawn.mk (by kernel_rfl) ?_) | (refine Run.mk ?_)))
  · refine Ret.mk ?_
    show AV.v false [Lf.d .bool (decide (mgV [{ data := #[97] }] [{ data := #[98] }] [{ data := #[99] }] = [(true, [], [{ data := #[97] }], [{ data := #[98] }], [{ data := #[99] }])]))] = _
    rw [decide_eq_true e1]
  · rename_i q
    exact absurd e2 q
end Go.Proofs.Ytppmhjaooiameaa
