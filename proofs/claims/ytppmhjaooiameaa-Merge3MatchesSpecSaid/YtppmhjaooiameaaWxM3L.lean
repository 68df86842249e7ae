/- The walks of the reference's End, Equal, covers, joined. -/
import Derived.Test.YtppmhjaooiameaaM3All
import Derived.Test.YtppmhjaooiameaaWxPat
import Derived.Test.YtppmhjaooiameaaWxLin
namespace Go.Proofs.Ytppmhjaooiameaa
open Go.RowKit
set_option maxRecDepth 10000
set_option linter.unusedSimpArgs false

def sp_REqual : SpecF := pureSp true [.slice .str, .slice .str] (fun _ => True) (fun (a', b', _) => .v false [.d .bool (decide (a' = b'))])
theorem REqual_sp : SpFact 38 sp_REqual := by
  refine ⟨⟨Try.f38, rfl, rfl, rfl, pureSp_ok (env_fine (sp := []) (eq := []) True.intro True.intro) rfl (fun ⟨_, _, _⟩ _ => rfl) ?_⟩, pureSp_loc _ _ _ _⟩
  rintro ⟨a, b, u⟩ ⟨⟨ha, -⟩, ⟨hb, -⟩, -⟩ -
  rw [maxLen_eq] at ha hb
  dsimp only at ha hb ⊢
  (refine fnM_of rfl rfl rfl rfl ?_; dsimp only [params, argAV, Ty.leaves, Ty.isSt])
  (repeat' (first | (with_reducible refine Cend.go ?_) | (with_reducible refine Step.mk True.intro ?_) | (with_reducible refine Step.mk ?_ ?_; focus (((try simp only [true_and, and_true, and_self, kmin, kmax, decide_eq_true_eq, decide_eq_false_iff_not, castD_self, castL_self, List.length_cons, List.length_nil, List.length_append, Int.natCast_add] at *) <;> omega))) | (with_reducible refine Step.mk ?_ ?_) | (with_reducible refine Way.t1 ?_) | (with_reducible refine Way.f1 ?_) | ((with_reducible refine Way.dec (fun _ => ?_) (fun _ => ?_)) <;> try (exfalso; omega)) | (with_reducible refine Way.nt ?_) | (with_reducible refine Way.mk (fun _ => ?_) (fun _ => ?_)) | (with_reducible refine Drawn.mk (by kernel_rfl) ?_) | (refine Run.mk ?_)))
  · rename_i h
    have h : a.length = b.length := by omega
    refine loop_by (X := Nat) (fun i => [.put 0 (.v false [.d (.slice .str) a]), .put 1 (.v false [.d (.slice .str) b]), .put 5 (.v false [.d (.int .i64) (i : Int)])]) (fun _ => []) (fun i => i ≤ a.length ∧ a.take i = b.take i) (fun i => a.length - i) 0 ⟨Nat.zero_le _, rfl⟩ ?_ ?_
    · (refine Wk.keep ?_ ?_ <;> repeat' (first | exact True.intro | refine And.intro rfl ?_ | refine And.intro (congrArg (fun z : Int => AV.v false [Lf.d (.int .i64) z]) (by first | omega | (simp only [Int.natCast_add, List.length_cons, List.length_append, List.length_nil]; omega))) ?_ | refine And.intro ?_ ?_))
    rintro i ⟨hi, ht⟩
    by_cases hlt : i < a.length
    · have ga := getD_at (a := a) Ty.str.dflt hlt
      have gb := getD_at (a := b) Ty.str.dflt (show i < b.length by omega)
      replace ht := Lib.hid ht
      replace ga := Lib.hid ga
      replace gb := Lib.hid gb
      (repeat' (first | (with_reducible refine Cend.go ?_) | (with_reducible refine Step.mk True.intro ?_) | (with_reducible refine Step.mk ?_ ?_; focus (((try simp only [true_and, and_true, and_self, kmin, kmax, decide_eq_true_eq, decide_eq_false_iff_not, castD_self, castL_self, List.length_cons, List.length_nil, List.length_append, Int.natCast_add] at *) <;> omega))) | (with_reducible refine Step.mk ?_ ?_) | (with_reducible refine Way.t1 ?_) | (with_reducible refine Way.f1 ?_) | ((with_reducible refine Way.dec (fun _ => ?_) (fun _ => ?_)) <;> try (exfalso; omega)) | (with_reducible refine Way.nt ?_) | (with_reducible refine Way.mk (fun _ => ?_) (fun _ => ?_)) | (with_reducible refine Drawn.mk (by kernel_rfl) ?_) | (refine Run.mk ?_)))
      · rename_i h2
        have h2 : a.getD ((i : Int)).toNat Ty.str.dflt = b.getD ((i : Int)).toNat Ty.str.dflt := h2
        rw [ga.out, gb.out] at h2
        (refine Back.by (i + 1) ?_ ?_ ?_; focus (refine Wk.keep ?_ ?_ <;> repeat' (first | exact True.intro | refine And.intro rfl ?_ | refine And.intro (congrArg (fun z : Int => AV.v false [Lf.d (.int .i64) z]) (by first | omega | (simp only [Int.natCast_add, List.length_cons, List.length_append, List.length_nil]; omega))) ?_ | refine And.intro ?_ ?_)))
        · exact ⟨hlt, take_next hlt (by omega) ht.out h2⟩
        · show a.length - (i + 1) < a.length - i; omega
      · rename_i h2
        have h2 : ¬ a.getD ((i : Int)).toNat Ty.str.dflt = b.getD ((i : Int)).toNat Ty.str.dflt := h2
        rw [ga.out, gb.out] at h2
        (refine Ret.mk (show AV.v false [Lf.d .bool false] = AV.v false [Lf.d .bool _] from congrArg (fun z => AV.v false [Lf.d .bool z]) (Eq.symm (decide_eq_false (ne_at hlt (show i < b.length by omega) h2)))))
    · (repeat' (first | (with_reducible refine Cend.go ?_) | (with_reducible refine Step.mk True.intro ?_) | (with_reducible refine Step.mk ?_ ?_; focus (((try simp only [true_and, and_true, and_self, kmin, kmax, decide_eq_true_eq, decide_eq_false_iff_not, castD_self, castL_self, List.length_cons, List.length_nil, List.length_append, Int.natCast_add] at *) <;> omega))) | (with_reducible refine Step.mk ?_ ?_) | (with_reducible refine Way.t1 ?_) | (with_reducible refine Way.f1 ?_) | ((with_reducible refine Way.dec (fun _ => ?_) (fun _ => ?_)) <;> try (exfalso; omega)) | (with_reducible refine Way.nt ?_) | (with_reducible refine Way.mk (fun _ => ?_) (fun _ => ?_)) | (with_reducible refine Drawn.mk (by kernel_rfl) ?_) | (refine Run.mk ?_)))
      have : a = b := take_eq_all h (by rw [show a.length = i by omega]; exact ht)
      (refine Ret.mk (show AV.v false [Lf.d .bool true] = AV.v false [Lf.d .bool _] from congrArg (fun z => AV.v false [Lf.d .bool z]) (Eq.symm (decide_eq_true this))))
  · rename_i h
    (refine Ret.mk (show AV.v false [Lf.d .bool false] = AV.v false [Lf.d .bool _] from congrArg (fun z => AV.v false [Lf.d .bool z]) (Eq.symm (decide_eq_false (by rintro rfl; exact h rfl)))))


def sp_GEnd : SpecF := pureSp true [tHk] (fun (h', _) => HkOk h') (fun (h', _) => .v false [.d (.int .i64) (hkEnd h')])
theorem GEnd_sp : SpFact 63 sp_GEnd := by
  refine ⟨⟨Try.f63, rfl, rfl, rfl, pureSp_ok (env_fine (sp := []) (eq := []) True.intro True.intro) rfl (fun ⟨_, _⟩ _ => rfl) ?_⟩, pureSp_loc _ _ _ _⟩
  rintro ⟨⟨a, o, n⟩, u⟩ - ⟨h1, h2, h3, h4⟩
  change Int at a
  change List ByteArray at o n
  replace h1 : 0 ≤ a := h1
  replace h2 : a ≤ 120 := h2
  replace h3 : o.length ≤ 120 := h3
  (refine fnM_of rfl rfl rfl rfl ?_; dsimp only [params, argAV, Ty.leaves, Ty.isSt])
  (repeat' (first | (with_reducible refine Cend.go ?_) | (with_reducible refine Step.mk True.intro ?_) | (with_reducible refine Step.mk ?_ ?_; focus (((try simp only [true_and, and_true, and_self, kmin, kmax, decide_eq_true_eq, decide_eq_false_iff_not, castD_self, castL_self, List.length_cons, List.length_nil, List.length_append, Int.natCast_add] at *) <;> omega))) | (with_reducible refine Step.mk ?_ ?_) | (with_reducible refine Way.t1 ?_) | (with_reducible refine Way.f1 ?_) | ((with_reducible refine Way.dec (fun _ => ?_) (fun _ => ?_)) <;> try (exfalso; omega)) | (with_reducible refine Way.nt ?_) | (with_reducible refine Way.mk (fun _ => ?_) (fun _ => ?_)) | (with_reducible refine Drawn.mk (by kernel_rfl) ?_) | (refine Run.mk ?_)))
  exact Ret.mk rfl
theorem HkOk.e {h : Hk} (q : HkOk h) : 0 ≤ h.1 ∧ h.1 ≤ hkEnd h ∧ hkEnd h ≤ 240 := by have := q.1; have := q.2.1; have := q.2.2.1; unfold hkEnd; omega
def sp_covers : SpecF := pureSp false [tPat, tPat, .int .i64] (fun (p', q', _, _) => ((∀ h ∈ p', HkOk h) ∧ p'.length ≤ 130) ∧ (∀ h ∈ q', HkOk h) ∧ q'.length ≤ 130) (fun (p', q', k', _) => .v false [.d .bool (gCov (p' ++ q') k')])
theorem covers_sp : SpFact 36 sp_covers := by
  refine ⟨⟨Try.f36, rfl, rfl, rfl, pureSp_ok (env_fine (sp := [(63, sp_GEnd)]) (eq := []) ⟨GEnd_sp, True.intro⟩ True.intro) rfl (fun ⟨_, _, _, _⟩ _ => rfl) ?_⟩, pureSp_loc _ _ _ _⟩
  rintro ⟨p, q, k, u⟩ - ⟨⟨hp, hpl⟩, hq, hql⟩
  change List Hk at p q
  change Int at k
  replace hpl : p.length ≤ 130 := hpl
  replace hql : q.length ≤ 130 := hql
  replace hp : ∀ h ∈ p, HkOk h := hp
  replace hq : ∀ h ∈ q, HkOk h := hq
  replace hp := Lib.hid hp
  replace hq := Lib.hid hq
  (refine fnM_of rfl rfl rfl rfl ?_; dsimp only [params, argAV, Ty.leaves, Ty.isSt])
  (repeat' (first | (with_reducible refine Cend.go ?_) | (with_reducible refine Step.mk True.intro ?_) | (with_reducible refine Step.mk ?_ ?_; focus (((try simp only [true_and, and_true, and_self, kmin, kmax, decide_eq_true_eq, decide_eq_false_iff_not, castD_self, castL_self, List.length_cons, List.length_nil, List.length_append, Int.natCast_add] at *) <;> omega))) | (with_reducible refine Step.mk ?_ ?_) | (with_reducible refine Way.t1 ?_) | (with_reducible refine Way.f1 ?_) | ((with_reducible refine Way.dec (fun _ => ?_) (fun _ => ?_)) <;> try (exfalso; omega)) | (with_reducible refine Way.nt ?_) | (with_reducible refine Way.mk (fun _ => ?_) (fun _ => ?_)) | (with_reducible refine Drawn.mk (by kernel_rfl) ?_) | (refine Run.mk ?_)))
  refine loop_by (X := Nat) (fun x => [.put 2 (.v false [.d (.int .i64) k]), .put 3 (.v false [.p 3 0]), .put 4 (.v false [.p 4 0]), .put 7 (.v false [.d (.int .i64) (x : Int)])])
    (fun x => [.put 3 (.box 44 [.d (.slice tHk) p]), .put 4 (.box 44 [.d (.slice tHk) q])]) (fun x => x ≤ p.length ∧ gCov p k = gCov (p.drop x) k) (fun x => p.length - x) 0 ⟨Nat.zero_le _, rfl⟩ ?_ ?_
  · (refine Wk.keep ?_ ?_ <;> repeat' (first | exact True.intro | refine And.intro rfl ?_ | refine And.intro (congrArg (fun z : Int => AV.v false [Lf.d (.int .i64) z]) (by first | omega | (simp only [Int.natCast_add, List.length_cons, List.length_append, List.length_nil]; omega))) ?_ | refine And.intro ?_ ?_))
  rintro x ⟨hx, hv⟩
  (try dsimp only at hx hv ⊢)
  by_cases hlt : x < p.length
  · have hg := getD_at (a := p) tHk.dflt hlt
    have ho := hp.out p[x] (List.getElem_mem hlt)
    rw [gCov_drop hlt, ← hg] at hv
    rw [← hg] at ho
    replace hg := Lib.hid hg
    have yes : (p.getD ((x : Int)).toNat tHk.dflt).1 ≤ k → k < hkEnd (p.getD ((x : Int)).toNat tHk.dflt) → gCov p k = true := fun z1 z2 => by rw [hv, decide_eq_true z1, decide_eq_true z2]; rfl
    have no : ¬ ((p.getD ((x : Int)).toNat tHk.dflt).1 ≤ k ∧ k < hkEnd (p.getD ((x : Int)).toNat tHk.dflt)) → gCov p k = gCov (p.drop (x + 1)) k := fun z => by
      rw [hv]
      have : (decide ((p.getD ((x : Int)).toNat tHk.dflt).1 ≤ k) && decide (k < hkEnd (p.getD ((x : Int)).toNat tHk.dflt))) = false := by
        rw [← Bool.not_eq_true, Bool.and_eq_true, decide_eq_true_eq, decide_eq_true_eq]; exact z
      rw [this]; rfl
    clear hv
    replace yes := Lib.hid yes
    replace no := Lib.hid no
    obtain ⟨e1, e2, e3⟩ := ho.e
    replace ho := Lib.hid ho
    (repeat' (first | (with_reducible refine Cend.go ?_) | (with_reducible refine Step.mk True.intro ?_) | (with_reducible refine Step.mk ?_ ?_; focus (((try simp only [true_and, and_true, and_self, kmin, kmax, decide_eq_true_eq, decide_eq_false_iff_not, castD_self, castL_self, List.length_cons, List.length_nil, List.length_append, Int.natCast_add] at *) <;> omega))) | (with_reducible refine Step.mk ?_ ?_) | (with_reducible refine Way.t1 ?_) | (with_reducible refine Way.f1 ?_) | ((with_reducible refine Way.dec (fun _ => ?_) (fun _ => ?_)) <;> try (exfalso; omega)) | (with_reducible refine Way.nt ?_) | (with_reducible refine Way.mk (fun _ => ?_) (fun _ => ?_)) | (with_reducible refine Drawn.mk (by kernel_rfl) ?_) | (refine Run.mk ?_)))
    · exact ho.out
    · rename_i q1 q2
      refine Ret.mk ?_
      show AV.v false [.d .bool true] = _
      rw [gCov_app, yes.out q1 q2, Bool.true_or]
    · rename_i q1 q2
      refine Back.by (x + 1) ?_ ?_ ?_
      · (refine Wk.keep ?_ ?_ <;> repeat' (first | exact True.intro | refine And.intro rfl ?_ | refine And.intro (congrArg (fun z : Int => AV.v false [Lf.d (.int .i64) z]) (by first | omega | (simp only [Int.natCast_add, List.length_cons, List.length_append, List.length_nil]; omega))) ?_ | refine And.intro ?_ ?_))
      · exact ⟨hlt, no.out (fun z => q2 z.2)⟩
      · show p.length - (x + 1) < p.length - x; omega
    · rename_i q1
      refine Back.by (x + 1) ?_ ?_ ?_
      · (refine Wk.keep ?_ ?_ <;> repeat' (first | exact True.intro | refine And.intro rfl ?_ | refine And.intro (congrArg (fun z : Int => AV.v false [Lf.d (.int .i64) z]) (by first | omega | (simp only [Int.natCast_add, List.length_cons, List.length_append, List.length_nil]; omega))) ?_ | refine And.intro ?_ ?_))
      · exact ⟨hlt, no.out (fun z => q1 z.1)⟩
      · show p.length - (x + 1) < p.length - x; omega
  · have h0p : gCov p k = false := by rw [hv, List.drop_eq_nil_of_le (by omega)]; rfl
    clear hv
    replace h0p := Lib.hid h0p
    (repeat' (first | (with_reducible refine Cend.go ?_) | (with_reducible refine Step.mk True.intro ?_) | (with_reducible refine Step.mk ?_ ?_; focus (((try simp only [true_and, and_true, and_self, kmin, kmax, decide_eq_true_eq, decide_eq_false_iff_not, castD_self, castL_self, List.length_cons, List.length_nil, List.length_append, Int.natCast_add] at *) <;> omega))) | (with_reducible refine Step.mk ?_ ?_) | (with_reducible refine Way.t1 ?_) | (with_reducible refine Way.f1 ?_) | ((with_reducible refine Way.dec (fun _ => ?_) (fun _ => ?_)) <;> try (exfalso; omega)) | (with_reducible refine Way.nt ?_) | (with_reducible refine Way.mk (fun _ => ?_) (fun _ => ?_)) | (with_reducible refine Drawn.mk (by kernel_rfl) ?_) | (refine Run.mk ?_)))
    refine loop_by (X := Nat) (fun x => [.put 2 (.v false [.d (.int .i64) k]), .put 3 (.v false [.p 3 0]), .put 4 (.v false [.p 4 0]), .put 8 (.v false [.d (.int .i64) (x : Int)])])
      (fun x => [.put 3 (.box 44 [.d (.slice tHk) p]), .put 4 (.box 44 [.d (.slice tHk) q])]) (fun x => x ≤ q.length ∧ gCov q k = gCov (q.drop x) k) (fun x => q.length - x) 0 ⟨Nat.zero_le _, rfl⟩ ?_ ?_
    · (refine Wk.keep ?_ ?_ <;> repeat' (first | exact True.intro | refine And.intro rfl ?_ | refine And.intro (congrArg (fun z : Int => AV.v false [Lf.d (.int .i64) z]) (by first | omega | (simp only [Int.natCast_add, List.length_cons, List.length_append, List.length_nil]; omega))) ?_ | refine And.intro ?_ ?_))
    rintro x ⟨hx, hv⟩
    (try dsimp only at hx hv ⊢)
    by_cases hlt : x < q.length
    · have hg := getD_at (a := q) tHk.dflt hlt
      have ho := hq.out q[x] (List.getElem_mem hlt)
      rw [gCov_drop hlt, ← hg] at hv
      rw [← hg] at ho
      replace hg := Lib.hid hg
      have yes : (q.getD ((x : Int)).toNat tHk.dflt).1 ≤ k → k < hkEnd (q.getD ((x : Int)).toNat tHk.dflt) → gCov q k = true := fun z1 z2 => by rw [hv, decide_eq_true z1, decide_eq_true z2]; rfl
      have no : ¬ ((q.getD ((x : Int)).toNat tHk.dflt).1 ≤ k ∧ k < hkEnd (q.getD ((x : Int)).toNat tHk.dflt)) → gCov q k = gCov (q.drop (x + 1)) k := fun z => by
        rw [hv]
        have : (decide ((q.getD ((x : Int)).toNat tHk.dflt).1 ≤ k) && decide (k < hkEnd (q.getD ((x : Int)).toNat tHk.dflt))) = false := by
          rw [← Bool.not_eq_true, Bool.and_eq_true, decide_eq_true_eq, decide_eq_true_eq]; exact z
        rw [this]; rfl
      clear hv
      replace yes := Lib.hid yes
      replace no := Lib.hid no
      obtain ⟨e1, e2, e3⟩ := ho.e
      replace ho := Lib.hid ho
      (repeat' (first | (with_reducible refine Cend.go ?_) | (with_reducible refine Step.mk True.intro ?_) | (with_reducible refine Step.mk ?_ ?_; focus (((try simp only [true_and, and_true, and_self, kmin, kmax, decide_eq_true_eq, decide_eq_false_iff_not, castD_self, castL_self, List.length_cons, List.length_nil, List.length_append, Int.natCast_add] at *) <;> omega))) | (with_reducible refine Step.mk ?_ ?_) | (with_reducible refine Way.t1 ?_) | (with_reducible refine Way.f1 ?_) | ((with_reducible refine Way.dec (fun _ => ?_) (fun _ => ?_)) <;> try (exfalso; omega)) | (with_reducible refine Way.nt ?_) | (with_reducible refine Way.mk (fun _ => ?_) (fun _ => ?_)) | (with_reducible refine Drawn.mk (by kernel_rfl) ?_) | (refine Run.mk ?_)))
      · exact ho.out
      · rename_i q1 q2
        refine Ret.mk ?_
        show AV.v false [.d .bool true] = _
        rw [gCov_app, yes.out q1 q2, Bool.or_true]
      · rename_i q1 q2
        refine Back.by (x + 1) ?_ ?_ ?_
        · (refine Wk.keep ?_ ?_ <;> repeat' (first | exact True.intro | refine And.intro rfl ?_ | refine And.intro (congrArg (fun z : Int => AV.v false [Lf.d (.int .i64) z]) (by first | omega | (simp only [Int.natCast_add, List.length_cons, List.length_append, List.length_nil]; omega))) ?_ | refine And.intro ?_ ?_))
        · exact ⟨hlt, no.out (fun z => q2 z.2)⟩
        · show q.length - (x + 1) < q.length - x; omega
      · rename_i q1
        refine Back.by (x + 1) ?_ ?_ ?_
        · (refine Wk.keep ?_ ?_ <;> repeat' (first | exact True.intro | refine And.intro rfl ?_ | refine And.intro (congrArg (fun z : Int => AV.v false [Lf.d (.int .i64) z]) (by first | omega | (simp only [Int.natCast_add, List.length_cons, List.length_append, List.length_nil]; omega))) ?_ | refine And.intro ?_ ?_))
        · exact ⟨hlt, no.out (fun z => q1 z.1)⟩
        · show q.length - (x + 1) < q.length - x; omega
    · have h0q : gCov q k = false := by rw [hv, List.drop_eq_nil_of_le (by omega)]; rfl
      clear hv
      (repeat' (first | (with_reducible refine Cend.go ?_) | (with_reducible refine Step.mk True.intro ?_) | (with_reducible refine Step.mk ?_ ?_; focus (((try simp only [true_and, and_true, and_self, kmin, kmax, decide_eq_true_eq, decide_eq_false_iff_not, castD_self, castL_self, List.length_cons, List.length_nil, List.length_append, Int.natCast_add] at *) <;> omega))) | (with_reducible refine Step.mk ?_ ?_) | (with_reducible refine Way.t1 ?_) | (with_reducible refine Way.f1 ?_) | ((with_reducible refine Way.dec (fun _ => ?_) (fun _ => ?_)) <;> try (exfalso; omega)) | (with_reducible refine Way.nt ?_) | (with_reducible refine Way.mk (fun _ => ?_) (fun _ => ?_)) | (with_reducible refine Drawn.mk (by kernel_rfl) ?_) | (refine Run.mk ?_)))
      refine Ret.mk ?_
      show AV.v false [.d .bool false] = _
      rw [gCov_app, h0p.out, h0q]; rfl
def sideL (p q : List Hk) (x : Nat) : List Hk := if x = 0 then [] else if x = 1 then p else p ++ q
def sp_joined : SpecF := pureSp false [.slice .str, tPat, tPat] (fun (b', p', q', _) => b'.length ≤ 120 ∧ ((∀ h ∈ p', HkOk h ∧ hkEnd h ≤ b'.length) ∧ p'.length ≤ 130) ∧ (∀ h ∈ q', HkOk h ∧ hkEnd h ≤ b'.length) ∧ q'.length ≤ 130) (fun (b', p', q', _) => .v false [.d (.slice (.int .i64)) (mkG b'.length (p' ++ q'))])
theorem joined_sp : SpFact 35 sp_joined := by
  refine ⟨⟨Try.f35, rfl, rfl, rfl, pureSp_okF (env_fine (sp := [(63, sp_GEnd)]) (eq := []) ⟨GEnd_sp, True.intro⟩ True.intro) rfl (fun ⟨_, _, _, _⟩ _ => rfl) ?_⟩, pureSp_loc _ _ _ _⟩
  rintro ⟨b, p, q, u⟩ - ⟨hb, ⟨hp, hpl⟩, hq, hql⟩
  change List Hk at p q
  change List ByteArray at b
  replace hb : b.length ≤ 120 := hb
  replace hpl : p.length ≤ 130 := hpl
  replace hql : q.length ≤ 130 := hql
  replace hp : ∀ h ∈ p, HkOk h ∧ hkEnd h ≤ b.length := hp
  replace hq : ∀ h ∈ q, HkOk h ∧ hkEnd h ≤ b.length := hq
  replace hp := Lib.hid hp
  replace hq := Lib.hid hq
  (refine fnM_of rfl rfl rfl rfl ?_; dsimp only [params, argAV, Ty.leaves, Ty.isSt])
  (repeat' (first | (with_reducible refine Cend.go ?_) | (with_reducible refine Step.mk True.intro ?_) | (with_reducible refine Step.mk ?_ ?_; focus (((try simp only [true_and, and_true, and_self, kmin, kmax, decide_eq_true_eq, decide_eq_false_iff_not, castD_self, castL_self, List.length_cons, List.length_nil, List.length_append, Int.natCast_add] at *) <;> omega))) | (with_reducible refine Step.mk ?_ ?_) | (with_reducible refine Way.t1 ?_) | (with_reducible refine Way.f1 ?_) | ((with_reducible refine Way.dec (fun _ => ?_) (fun _ => ?_)) <;> try (exfalso; omega)) | (with_reducible refine Way.nt ?_) | (with_reducible refine Way.mk (fun _ => ?_) (fun _ => ?_)) | (with_reducible refine Drawn.mk (by kernel_rfl) ?_) | (refine Run.mk ?_)))
  refine loop_by (X := Nat) (fun x => [.put 4 (.v false [.p 4 0]), .put 5 (.v false [.p 5 0]), .put 7 (.v false [.o 91]), .put 8 (.v false [.d (.int .i64) (x : Int)])])
    (fun x => [.put 4 (.box 44 [.d (.slice tHk) p]), .put 5 (.box 44 [.d (.slice tHk) q]), .put 91 (.row 3 (.int .i64) (mkG b.length (sideL p q x)))]) (fun x => x ≤ 2) (fun x => 2 - x) 0 (by decide) ?_ ?_
  · have e0 : mkG b.length (sideL p q 0) = List.replicate ((b.length : Int) + 1).toNat 0 := by
      rw [show ((b.length : Int) + 1).toNat = b.length + 1 by omega, mkF_zero]; rfl
    rw [e0]
    (refine Wk.ren [(91, 15)] rfl ?_ ?_ <;> repeat' (first | exact True.intro | refine And.intro rfl ?_ | refine And.intro (congrArg (fun z : Int => AV.v false [Lf.d (.int .i64) z]) (by first | omega | (simp only [Int.natCast_add, List.length_cons, List.length_append, List.length_nil]; omega))) ?_ | refine And.intro ?_ ?_))
  intro x hx
  (try dsimp only)
  by_cases hlt : x < 2
  · rcases (show x = 0 ∨ x = 1 by omega) with rfl | rfl
    · have hml : ∀ i, (mkG b.length ([] ++ p.take i)).length = b.length + 1 := fun i => mkF_len _ _
      replace hml := Lib.hid hml
      have hm0 : (mkG b.length (sideL p q 0)).length = b.length + 1 := mkF_len _ _
      (repeat' (first | (with_reducible refine Cend.go ?_) | (with_reducible refine Step.mk True.intro ?_) | (with_reducible refine Step.mk ?_ ?_; focus (((try simp only [true_and, and_true, and_self, kmin, kmax, decide_eq_true_eq, decide_eq_false_iff_not, castD_self, castL_self, List.length_cons, List.length_nil, List.length_append, Int.natCast_add] at *) <;> omega))) | (with_reducible refine Step.mk ?_ ?_) | (with_reducible refine Way.t1 ?_) | (with_reducible refine Way.f1 ?_) | ((with_reducible refine Way.dec (fun _ => ?_) (fun _ => ?_)) <;> try (exfalso; omega)) | (with_reducible refine Way.nt ?_) | (with_reducible refine Way.mk (fun _ => ?_) (fun _ => ?_)) | (with_reducible refine Drawn.mk (by kernel_rfl) ?_) | (refine Run.mk ?_)))
      refine loop_by (X := Nat) (fun i => [.put 4 (.v false [.p 4 0]), .put 5 (.v false [.p 5 0]), .put 7 (.v false [.o 91]), .put 8 (.v false [.d (.int .i64) ((0 : Nat) : Int)]), .put 9 (.v false [.p 9 0]), .put 10 (.v false [.d (.int .i64) (i : Int)])])
        (fun i => [.put 4 (.box 44 [.d (.slice tHk) p]), .put 5 (.box 44 [.d (.slice tHk) q]), .put 9 (.box 44 [.d (.slice tHk) p]), .put 91 (.row 3 (.int .i64) (mkG b.length ([] ++ p.take i)))]) (fun i => i ≤ p.length) (fun i => p.length - i) 0 (Nat.zero_le _) ?_ ?_
      · have e0 : mkG b.length ([] ++ p.take 0) = mkG b.length (sideL p q 0) := by rw [List.take_zero, List.append_nil]; rfl
        rw [e0]
        (refine Wk.keep ?_ ?_ <;> repeat' (first | exact True.intro | refine And.intro rfl ?_ | refine And.intro (congrArg (fun z : Int => AV.v false [Lf.d (.int .i64) z]) (by first | omega | (simp only [Int.natCast_add, List.length_cons, List.length_append, List.length_nil]; omega))) ?_ | refine And.intro ?_ ?_))
      intro i hi
      (try dsimp only)
      by_cases hit : i < p.length
      · have hg := getD_at (a := p) tHk.dflt hit
        obtain ⟨ho, hoe⟩ := hp.out p[i] (List.getElem_mem hit)
        have htk : [] ++ p.take (i + 1) = ([] ++ p.take i) ++ [p.getD ((i : Int)).toNat tHk.dflt] := by rw [hg, List.take_add_one, List.getElem?_eq_getElem hit, Option.toList_some, List.append_assoc]
        rw [← hg] at ho hoe
        replace hg := Lib.hid hg
        replace htk := Lib.hid htk
        obtain ⟨e1, e2, e3⟩ := ho.e
        have hmi := hml.out i
        (repeat' (first | (with_reducible refine Cend.go ?_) | (with_reducible refine Step.mk True.intro ?_) | (with_reducible refine Step.mk ?_ ?_; focus (((try simp only [true_and, and_true, and_self, kmin, kmax, decide_eq_true_eq, decide_eq_false_iff_not, castD_self, castL_self, List.length_cons, List.length_nil, List.length_append, Int.natCast_add] at *) <;> omega))) | (with_reducible refine Step.mk ?_ ?_) | (with_reducible refine Way.t1 ?_) | (with_reducible refine Way.f1 ?_) | ((with_reducible refine Way.dec (fun _ => ?_) (fun _ => ?_)) <;> try (exfalso; omega)) | (with_reducible refine Way.nt ?_) | (with_reducible refine Way.mk (fun _ => ?_) (fun _ => ?_)) | (with_reducible refine Drawn.mk (by kernel_rfl) ?_) | (refine Run.mk ?_)))
        refine loop_by (X := Nat) (fun z => [.put 4 (.v false [.p 4 0]), .put 5 (.v false [.p 5 0]), .put 7 (.v false [.o 91]), .put 8 (.v false [.d (.int .i64) ((0 : Nat) : Int)]), .put 9 (.v false [.p 9 0]), .put 10 (.v false [.d (.int .i64) (i : Int)]), .put 11 (.v false [.d (.int .i64) ((p.getD ((i : Int)).toNat tHk.dflt).1 + (z : Int))])])
          (fun z => [.put 4 (.box 44 [.d (.slice tHk) p]), .put 5 (.box 44 [.d (.slice tHk) q]), .put 9 (.box 44 [.d (.slice tHk) p]), .put 91 (.row 3 (.int .i64) (mkH b.length ([] ++ p.take i) (p.getD ((i : Int)).toNat tHk.dflt) ((p.getD ((i : Int)).toNat tHk.dflt).1 + (z : Int))))])
          (fun z => (p.getD ((i : Int)).toNat tHk.dflt).1 + (z : Int) ≤ hkEnd (p.getD ((i : Int)).toNat tHk.dflt) + 1) (fun z => 1000 - z) 0 (by omega) ?_ ?_
        · rw [show (p.getD ((i : Int)).toNat tHk.dflt).1 + ((0 : Nat) : Int) = (p.getD ((i : Int)).toNat tHk.dflt).1 by omega, mkH_start]
          (refine Wk.keep ?_ ?_ <;> repeat' (first | exact True.intro | refine And.intro rfl ?_ | refine And.intro (congrArg (fun z : Int => AV.v false [Lf.d (.int .i64) z]) (by first | omega | (simp only [Int.natCast_add, List.length_cons, List.length_append, List.length_nil]; omega))) ?_ | refine And.intro ?_ ?_))
        intro z hz
        (try dsimp only at hz ⊢)
        have hmz : (mkH b.length ([] ++ p.take i) (p.getD ((i : Int)).toNat tHk.dflt) ((p.getD ((i : Int)).toNat tHk.dflt).1 + (z : Int))).length = b.length + 1 := mkF_len _ _
        have hst := mkH_set (n := b.length) (L := [] ++ p.take i) (h := p.getD ((i : Int)).toNat tHk.dflt) (k := (p.getD ((i : Int)).toNat tHk.dflt).1 + (z : Int)) e1 (by omega)
        replace hst := Lib.hid hst
        replace ho := Lib.hid ho
        (repeat' (first | (with_reducible refine Cend.go ?_) | (with_reducible refine Step.mk True.intro ?_) | (with_reducible refine Step.mk ?_ ?_; focus (((try simp only [true_and, and_true, and_self, kmin, kmax, decide_eq_true_eq, decide_eq_false_iff_not, castD_self, castL_self, List.length_cons, List.length_nil, List.length_append, Int.natCast_add] at *) <;> omega))) | (with_reducible refine Step.mk ?_ ?_) | (with_reducible refine Way.t1 ?_) | (with_reducible refine Way.f1 ?_) | ((with_reducible refine Way.dec (fun _ => ?_) (fun _ => ?_)) <;> try (exfalso; omega)) | (with_reducible refine Way.nt ?_) | (with_reducible refine Way.mk (fun _ => ?_) (fun _ => ?_)) | (with_reducible refine Drawn.mk (by kernel_rfl) ?_) | (refine Run.mk ?_)))
        · exact ho.out
        · rename_i zq
          have zq : (p.getD ((i : Int)).toNat tHk.dflt).1 + (z : Int) ≤ hkEnd (p.getD ((i : Int)).toNat tHk.dflt) := zq
          exact ⟨by omega, by omega⟩
        · rename_i zq
          have zq : (p.getD ((i : Int)).toNat tHk.dflt).1 + (z : Int) ≤ hkEnd (p.getD ((i : Int)).toNat tHk.dflt) := zq
          omega
        · rename_i zq
          have zq : (p.getD ((i : Int)).toNat tHk.dflt).1 + (z : Int) ≤ hkEnd (p.getD ((i : Int)).toNat tHk.dflt) := zq
          refine Back.by (z + 1) ?_ ?_ ?_
          · rw [show (p.getD ((i : Int)).toNat tHk.dflt).1 + ((z + 1 : Nat) : Int) = (p.getD ((i : Int)).toNat tHk.dflt).1 + (z : Int) + 1 by omega, ← hst.out]
            (refine Wk.keep ?_ ?_ <;> repeat' (first | exact True.intro | refine And.intro rfl ?_ | refine And.intro (congrArg (fun z : Int => AV.v false [Lf.d (.int .i64) z]) (by first | omega | (simp only [Int.natCast_add, List.length_cons, List.length_append, List.length_nil]; omega))) ?_ | refine And.intro ?_ ?_))
          · show (p.getD ((i : Int)).toNat tHk.dflt).1 + ((z + 1 : Nat) : Int) ≤ hkEnd (p.getD ((i : Int)).toNat tHk.dflt) + 1; omega
          · show 1000 - (z + 1) < 1000 - z; omega
        · rename_i zq
          have zq : ¬ (p.getD ((i : Int)).toNat tHk.dflt).1 + (z : Int) ≤ hkEnd (p.getD ((i : Int)).toNat tHk.dflt) := zq
          have e : hkEnd (p.getD ((i : Int)).toNat tHk.dflt) + 1 = (p.getD ((i : Int)).toNat tHk.dflt).1 + (z : Int) := by omega
          refine Back.by (i + 1) ?_ ?_ ?_
          · rw [htk.out, ← mkH_end, e]
            (refine Wk.keep ?_ ?_ <;> repeat' (first | exact True.intro | refine And.intro rfl ?_ | refine And.intro (congrArg (fun z : Int => AV.v false [Lf.d (.int .i64) z]) (by first | omega | (simp only [Int.natCast_add, List.length_cons, List.length_append, List.length_nil]; omega))) ?_ | refine And.intro ?_ ?_))
          · exact hit
          · show p.length - (i + 1) < p.length - i; omega
      · have e : p.take i = p := List.take_of_length_le (by omega)
        rw [e]
        (repeat' (first | (with_reducible refine Cend.go ?_) | (with_reducible refine Step.mk True.intro ?_) | (with_reducible refine Step.mk ?_ ?_; focus (((try simp only [true_and, and_true, and_self, kmin, kmax, decide_eq_true_eq, decide_eq_false_iff_not, castD_self, castL_self, List.length_cons, List.length_nil, List.length_append, Int.natCast_add] at *) <;> omega))) | (with_reducible refine Step.mk ?_ ?_) | (with_reducible refine Way.t1 ?_) | (with_reducible refine Way.f1 ?_) | ((with_reducible refine Way.dec (fun _ => ?_) (fun _ => ?_)) <;> try (exfalso; omega)) | (with_reducible refine Way.nt ?_) | (with_reducible refine Way.mk (fun _ => ?_) (fun _ => ?_)) | (with_reducible refine Drawn.mk (by kernel_rfl) ?_) | (refine Run.mk ?_)))
        refine Back.by (0 + 1) ?_ ?_ ?_
        · (refine Wk.keep ?_ ?_ <;> repeat' (first | exact True.intro | refine And.intro rfl ?_ | refine And.intro (congrArg (fun z : Int => AV.v false [Lf.d (.int .i64) z]) (by first | omega | (simp only [Int.natCast_add, List.length_cons, List.length_append, List.length_nil]; omega))) ?_ | refine And.intro ?_ ?_))
        · decide
        · decide
    · have hml : ∀ i, (mkG b.length (p ++ q.take i)).length = b.length + 1 := fun i => mkF_len _ _
      replace hml := Lib.hid hml
      have hm0 : (mkG b.length (sideL p q 1)).length = b.length + 1 := mkF_len _ _
      (repeat' (first | (with_reducible refine Cend.go ?_) | (with_reducible refine Step.mk True.intro ?_) | (with_reducible refine Step.mk ?_ ?_; focus (((try simp only [true_and, and_true, and_self, kmin, kmax, decide_eq_true_eq, decide_eq_false_iff_not, castD_self, castL_self, List.length_cons, List.length_nil, List.length_append, Int.natCast_add] at *) <;> omega))) | (with_reducible refine Step.mk ?_ ?_) | (with_reducible refine Way.t1 ?_) | (with_reducible refine Way.f1 ?_) | ((with_reducible refine Way.dec (fun _ => ?_) (fun _ => ?_)) <;> try (exfalso; omega)) | (with_reducible refine Way.nt ?_) | (with_reducible refine Way.mk (fun _ => ?_) (fun _ => ?_)) | (with_reducible refine Drawn.mk (by kernel_rfl) ?_) | (refine Run.mk ?_)))
      refine loop_by (X := Nat) (fun i => [.put 4 (.v false [.p 4 0]), .put 5 (.v false [.p 5 0]), .put 7 (.v false [.o 91]), .put 8 (.v false [.d (.int .i64) ((1 : Nat) : Int)]), .put 9 (.v false [.p 9 0]), .put 10 (.v false [.d (.int .i64) (i : Int)])])
        (fun i => [.put 4 (.box 44 [.d (.slice tHk) p]), .put 5 (.box 44 [.d (.slice tHk) q]), .put 9 (.box 44 [.d (.slice tHk) q]), .put 91 (.row 3 (.int .i64) (mkG b.length (p ++ q.take i)))]) (fun i => i ≤ q.length) (fun i => q.length - i) 0 (Nat.zero_le _) ?_ ?_
      · have e0 : mkG b.length (p ++ q.take 0) = mkG b.length (sideL p q 1) := by rw [List.take_zero, List.append_nil]; rfl
        rw [e0]
        (refine Wk.keep ?_ ?_ <;> repeat' (first | exact True.intro | refine And.intro rfl ?_ | refine And.intro (congrArg (fun z : Int => AV.v false [Lf.d (.int .i64) z]) (by first | omega | (simp only [Int.natCast_add, List.length_cons, List.length_append, List.length_nil]; omega))) ?_ | refine And.intro ?_ ?_))
      intro i hi
      (try dsimp only)
      by_cases hit : i < q.length
      · have hg := getD_at (a := q) tHk.dflt hit
        obtain ⟨ho, hoe⟩ := hq.out q[i] (List.getElem_mem hit)
        have htk : p ++ q.take (i + 1) = (p ++ q.take i) ++ [q.getD ((i : Int)).toNat tHk.dflt] := by rw [hg, List.take_add_one, List.getElem?_eq_getElem hit, Option.toList_some, List.append_assoc]
        rw [← hg] at ho hoe
        replace hg := Lib.hid hg
        replace htk := Lib.hid htk
        obtain ⟨e1, e2, e3⟩ := ho.e
        have hmi := hml.out i
        (repeat' (first | (with_reducible refine Cend.go ?_) | (with_reducible refine Step.mk True.intro ?_) | (with_reducible refine Step.mk ?_ ?_; focus (((try simp only [true_and, and_true, and_self, kmin, kmax, decide_eq_true_eq, decide_eq_false_iff_not, castD_self, castL_self, List.length_cons, List.length_nil, List.length_append, Int.natCast_add] at *) <;> omega))) | (with_reducible refine Step.mk ?_ ?_) | (with_reducible refine Way.t1 ?_) | (with_reducible refine Way.f1 ?_) | ((with_reducible refine Way.dec (fun _ => ?_) (fun _ => ?_)) <;> try (exfalso; omega)) | (with_reducible refine Way.nt ?_) | (with_reducible refine Way.mk (fun _ => ?_) (fun _ => ?_)) | (with_reducible refine Drawn.mk (by kernel_rfl) ?_) | (refine Run.mk ?_)))
        refine loop_by (X := Nat) (fun z => [.put 4 (.v false [.p 4 0]), .put 5 (.v false [.p 5 0]), .put 7 (.v false [.o 91]), .put 8 (.v false [.d (.int .i64) ((1 : Nat) : Int)]), .put 9 (.v false [.p 9 0]), .put 10 (.v false [.d (.int .i64) (i : Int)]), .put 11 (.v false [.d (.int .i64) ((q.getD ((i : Int)).toNat tHk.dflt).1 + (z : Int))])])
          (fun z => [.put 4 (.box 44 [.d (.slice tHk) p]), .put 5 (.box 44 [.d (.slice tHk) q]), .put 9 (.box 44 [.d (.slice tHk) q]), .put 91 (.row 3 (.int .i64) (mkH b.length (p ++ q.take i) (q.getD ((i : Int)).toNat tHk.dflt) ((q.getD ((i : Int)).toNat tHk.dflt).1 + (z : Int))))])
          (fun z => (q.getD ((i : Int)).toNat tHk.dflt).1 + (z : Int) ≤ hkEnd (q.getD ((i : Int)).toNat tHk.dflt) + 1) (fun z => 1000 - z) 0 (by omega) ?_ ?_
        · rw [show (q.getD ((i : Int)).toNat tHk.dflt).1 + ((0 : Nat) : Int) = (q.getD ((i : Int)).toNat tHk.dflt).1 by omega, mkH_start]
          (refine Wk.keep ?_ ?_ <;> repeat' (first | exact True.intro | refine And.intro rfl ?_ | refine And.intro (congrArg (fun z : Int => AV.v false [Lf.d (.int .i64) z]) (by first | omega | (simp only [Int.natCast_add, List.length_cons, List.length_append, List.length_nil]; omega))) ?_ | refine And.intro ?_ ?_))
        intro z hz
        (try dsimp only at hz ⊢)
        have hmz : (mkH b.length (p ++ q.take i) (q.getD ((i : Int)).toNat tHk.dflt) ((q.getD ((i : Int)).toNat tHk.dflt).1 + (z : Int))).length = b.length + 1 := mkF_len _ _
        have hst := mkH_set (n := b.length) (L := p ++ q.take i) (h := q.getD ((i : Int)).toNat tHk.dflt) (k := (q.getD ((i : Int)).toNat tHk.dflt).1 + (z : Int)) e1 (by omega)
        replace hst := Lib.hid hst
        replace ho := Lib.hid ho
        (repeat' (first | (with_reducible refine Cend.go ?_) | (with_reducible refine Step.mk True.intro ?_) | (with_reducible refine Step.mk ?_ ?_; focus (((try simp only [true_and, and_true, and_self, kmin, kmax, decide_eq_true_eq, decide_eq_false_iff_not, castD_self, castL_self, List.length_cons, List.length_nil, List.length_append, Int.natCast_add] at *) <;> omega))) | (with_reducible refine Step.mk ?_ ?_) | (with_reducible refine Way.t1 ?_) | (with_reducible refine Way.f1 ?_) | ((with_reducible refine Way.dec (fun _ => ?_) (fun _ => ?_)) <;> try (exfalso; omega)) | (with_reducible refine Way.nt ?_) | (with_reducible refine Way.mk (fun _ => ?_) (fun _ => ?_)) | (with_reducible refine Drawn.mk (by kernel_rfl) ?_) | (refine Run.mk ?_)))
        · exact ho.out
        · rename_i zq
          have zq : (q.getD ((i : Int)).toNat tHk.dflt).1 + (z : Int) ≤ hkEnd (q.getD ((i : Int)).toNat tHk.dflt) := zq
          exact ⟨by omega, by omega⟩
        · rename_i zq
          have zq : (q.getD ((i : Int)).toNat tHk.dflt).1 + (z : Int) ≤ hkEnd (q.getD ((i : Int)).toNat tHk.dflt) := zq
          omega
        · rename_i zq
          have zq : (q.getD ((i : Int)).toNat tHk.dflt).1 + (z : Int) ≤ hkEnd (q.getD ((i : Int)).toNat tHk.dflt) := zq
          refine Back.by (z + 1) ?_ ?_ ?_
          · rw [show (q.getD ((i : Int)).toNat tHk.dflt).1 + ((z + 1 : Nat) : Int) = (q.getD ((i : Int)).toNat tHk.dflt).1 + (z : Int) + 1 by omega, ← hst.out]
            (refine Wk.keep ?_ ?_ <;> repeat' (first | exact True.intro | refine And.intro rfl ?_ | refine And.intro (congrArg (fun z : Int => AV.v false [Lf.d (.int .i64) z]) (by first | omega | (simp only [Int.natCast_add, List.length_cons, List.length_append, List.length_nil]; omega))) ?_ | refine And.intro ?_ ?_))
          · show (q.getD ((i : Int)).toNat tHk.dflt).1 + ((z + 1 : Nat) : Int) ≤ hkEnd (q.getD ((i : Int)).toNat tHk.dflt) + 1; omega
          · show 1000 - (z + 1) < 1000 - z; omega
        · rename_i zq
          have zq : ¬ (q.getD ((i : Int)).toNat tHk.dflt).1 + (z : Int) ≤ hkEnd (q.getD ((i : Int)).toNat tHk.dflt) := zq
          have e : hkEnd (q.getD ((i : Int)).toNat tHk.dflt) + 1 = (q.getD ((i : Int)).toNat tHk.dflt).1 + (z : Int) := by omega
          refine Back.by (i + 1) ?_ ?_ ?_
          · rw [htk.out, ← mkH_end, e]
            (refine Wk.keep ?_ ?_ <;> repeat' (first | exact True.intro | refine And.intro rfl ?_ | refine And.intro (congrArg (fun z : Int => AV.v false [Lf.d (.int .i64) z]) (by first | omega | (simp only [Int.natCast_add, List.length_cons, List.length_append, List.length_nil]; omega))) ?_ | refine And.intro ?_ ?_))
          · exact hit
          · show q.length - (i + 1) < q.length - i; omega
      · have e : q.take i = q := List.take_of_length_le (by omega)
        rw [e]
        (repeat' (first | (with_reducible refine Cend.go ?_) | (with_reducible refine Step.mk True.intro ?_) | (with_reducible refine Step.mk ?_ ?_; focus (((try simp only [true_and, and_true, and_self, kmin, kmax, decide_eq_true_eq, decide_eq_false_iff_not, castD_self, castL_self, List.length_cons, List.length_nil, List.length_append, Int.natCast_add] at *) <;> omega))) | (with_reducible refine Step.mk ?_ ?_) | (with_reducible refine Way.t1 ?_) | (with_reducible refine Way.f1 ?_) | ((with_reducible refine Way.dec (fun _ => ?_) (fun _ => ?_)) <;> try (exfalso; omega)) | (with_reducible refine Way.nt ?_) | (with_reducible refine Way.mk (fun _ => ?_) (fun _ => ?_)) | (with_reducible refine Drawn.mk (by kernel_rfl) ?_) | (refine Run.mk ?_)))
        refine Back.by (1 + 1) ?_ ?_ ?_
        · (refine Wk.keep ?_ ?_ <;> repeat' (first | exact True.intro | refine And.intro rfl ?_ | refine And.intro (congrArg (fun z : Int => AV.v false [Lf.d (.int .i64) z]) (by first | omega | (simp only [Int.natCast_add, List.length_cons, List.length_append, List.length_nil]; omega))) ?_ | refine And.intro ?_ ?_))
        · decide
        · decide
  · have e2 : sideL p q x = p ++ q := by
      obtain rfl : x = 2 := by omega
      rfl
    rw [e2]
    (repeat' (first | (with_reducible refine Cend.go ?_) | (with_reducible refine Step.mk True.intro ?_) | (with_reducible refine Step.mk ?_ ?_; focus (((try simp only [true_and, and_true, and_self, kmin, kmax, decide_eq_true_eq, decide_eq_false_iff_not, castD_self, castL_self, List.length_cons, List.length_nil, List.length_append, Int.natCast_add] at *) <;> omega))) | (with_reducible refine Step.mk ?_ ?_) | (with_reducible refine Way.t1 ?_) | (with_reducible refine Way.f1 ?_) | ((with_reducible refine Way.dec (fun _ => ?_) (fun _ => ?_)) <;> try (exfalso; omega)) | (with_reducible refine Way.nt ?_) | (with_reducible refine Way.mk (fun _ => ?_) (fun _ => ?_)) | (with_reducible refine Drawn.mk (by kernel_rfl) ?_) | (refine Run.mk ?_)))
    exact Ret.mk ⟨rfl, .frz rfl, True.intro⟩
end Go.Proofs.Ytppmhjaooiameaa
