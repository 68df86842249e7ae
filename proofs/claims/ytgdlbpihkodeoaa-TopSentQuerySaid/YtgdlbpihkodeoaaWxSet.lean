/- revset: minus, selected, related (to parents), leaf. -/
import Derived.Test.YtgdlbpihkodeoaaEvPure
import Derived.Test.YtgdlbpihkodeoaaWxHist
import Derived.Test.YtgdlbpihkodeoaaWxRev
namespace Go.Proofs.Ytgdlbpihkodeoaa
open Go.RowKit
set_option maxRecDepth 20000
set_option linter.unusedSimpArgs false

def sp_minus : SpecF := ownSp true [.slice .bool, .slice .bool] 4 .bool (fun (a', b', _) => a'.length = b'.length ∧ a'.length ≤ 60) (fun (a', b', _) => minB a' b')
theorem minus_sp : SpFact 59 sp_minus := by
  refine ⟨⟨Try.f59, rfl, rfl, rfl, ownSp_ok (env_fine (sp := []) (eq := []) True.intro True.intro) rfl (fun _ => rfl) ?_⟩, ownSp_loc _ _ _ _ _ _⟩
  rintro ⟨a, b, u⟩ - ⟨he, hl⟩
  change List Bool at a b
  have he : a.length = b.length := he
  have hl : a.length ≤ 60 := hl
  (refine fnM_of rfl rfl rfl rfl ?_; dsimp only [params, argAV, Ty.leaves, Ty.isSt])
  (repeat' (first | (with_reducible refine Cend.go ?_) | (with_reducible refine Step.mk True.intro ?_) | (with_reducible refine Step.mk ?_ ?_; focus (((try simp only [true_and, and_true, and_self, kmin, kmax, decide_eq_true_eq, decide_eq_false_iff_not, castD_self, castL_self, List.length_cons, List.length_nil, List.length_append, Int.natCast_add] at *) <;> omega))) | (with_reducible refine Step.mk ?_ ?_) | (with_reducible refine Way.t1 ?_) | (with_reducible refine Way.f1 ?_) | ((with_reducible refine Way.dec (fun _ => ?_) (fun _ => ?_)) <;> try (exfalso; omega)) | (with_reducible refine Way.nt ?_) | (with_reducible refine Way.mk (fun _ => ?_) (fun _ => ?_)) | (with_reducible refine Drawn.mk (by kernel_rfl) ?_) | (refine Run.mk ?_)))
  refine loop_by (X := Nat) (fun x => [.put 0 (.v false [.d (.slice .bool) a]), .put 1 (.v false [.d (.slice .bool) b]), .put 5 (.v false [.o 9]), .put 11 (.v false [.d (.int .i64) (a.length : Int)]), .put 12 (.v false [.d (.int .i64) (x : Int)])])
    (fun x => [.put 9 (.row 4 .bool (mixB (fun _ => false) (minF a b) a.length x))]) (fun x => x ≤ a.length) (fun x => a.length - x) 0 (Nat.zero_le _) ?_ ?_
  · (refine Wk.keep ?_ ?_ <;> repeat' (first | exact True.intro | refine And.intro rfl ?_ | refine And.intro (congrArg (fun z : Int => AV.v false [Lf.d (.int .i64) z]) (by first | omega | (simp only [Int.natCast_add, List.length_cons, List.length_append, List.length_nil]; omega))) ?_ | refine And.intro ?_ ?_))
    all_goals skip
    rw [mixB_0, ← rep_tab]; exact rfl
  intro k hk
  dsimp only at hk ⊢
  by_cases hlt : k < a.length
  · have hlen := mixB_len (fun _ => false) (minF a b) a.length k
    have hst := mixB_set (fun _ => false) (minF a b) (n := a.length) (k := k)
    obtain ⟨s, hs⟩ : ∃ s, mixB (fun _ => false) (minF a b) a.length k = s := ⟨_, rfl⟩
    rw [hs] at hlen hst ⊢
    clear hs
    replace hst := Lib.hid hst
    (repeat' (first | (with_reducible refine Cend.go ?_) | (with_reducible refine Step.mk True.intro ?_) | (with_reducible refine Step.mk ?_ ?_; focus (((try simp only [true_and, and_true, and_self, kmin, kmax, decide_eq_true_eq, decide_eq_false_iff_not, castD_self, castL_self, List.length_cons, List.length_nil, List.length_append, Int.natCast_add] at *) <;> omega))) | (with_reducible refine Step.mk ?_ ?_) | (with_reducible refine Way.t1 ?_) | (with_reducible refine Way.f1 ?_) | ((with_reducible refine Way.dec (fun _ => ?_) (fun _ => ?_)) <;> try (exfalso; omega)) | (with_reducible refine Way.nt ?_) | (with_reducible refine Way.mk (fun _ => ?_) (fun _ => ?_)) | (with_reducible refine Drawn.mk (by kernel_rfl) ?_) | (refine Run.mk ?_)))
    · rename_i hx
      have hx : a.getD k false = true := hx
      have e : minF a b k = !b.getD k false := by unfold minF; rw [hx]; rfl
      (refine Back.by (k + 1) ?_ ?_ ?_; focus (refine Wk.keep ?_ ?_ <;> repeat' (first | exact True.intro | refine And.intro rfl ?_ | refine And.intro (congrArg (fun z : Int => AV.v false [Lf.d (.int .i64) z]) (by first | omega | (simp only [Int.natCast_add, List.length_cons, List.length_append, List.length_nil]; omega))) ?_ | refine And.intro ?_ ?_)))
      · rw [← hst.out, e]; exact rfl
      · exact hlt
      · show a.length - (k + 1) < a.length - k; omega
    · rename_i hx
      have hx : a.getD k false = false := hx
      have e : minF a b k = false := by unfold minF; rw [hx]; rfl
      (refine Back.by (k + 1) ?_ ?_ ?_; focus (refine Wk.keep ?_ ?_ <;> repeat' (first | exact True.intro | refine And.intro rfl ?_ | refine And.intro (congrArg (fun z : Int => AV.v false [Lf.d (.int .i64) z]) (by first | omega | (simp only [Int.natCast_add, List.length_cons, List.length_append, List.length_nil]; omega))) ?_ | refine And.intro ?_ ?_)))
      · rw [← hst.out, e]; exact rfl
      · exact hlt
      · show a.length - (k + 1) < a.length - k; omega
  · have e : k = a.length := by omega
    subst e
    rw [mixB_n]
    (repeat' (first | (with_reducible refine Cend.go ?_) | (with_reducible refine Step.mk True.intro ?_) | (with_reducible refine Step.mk ?_ ?_; focus (((try simp only [true_and, and_true, and_self, kmin, kmax, decide_eq_true_eq, decide_eq_false_iff_not, castD_self, castL_self, List.length_cons, List.length_nil, List.length_append, Int.natCast_add] at *) <;> omega))) | (with_reducible refine Step.mk ?_ ?_) | (with_reducible refine Way.t1 ?_) | (with_reducible refine Way.f1 ?_) | ((with_reducible refine Way.dec (fun _ => ?_) (fun _ => ?_)) <;> try (exfalso; omega)) | (with_reducible refine Way.nt ?_) | (with_reducible refine Way.mk (fun _ => ?_) (fun _ => ?_)) | (with_reducible refine Drawn.mk (by kernel_rfl) ?_) | (refine Run.mk ?_)))
    exact Ret.mk (.inl ⟨_, rfl, rfl⟩)

def sp_selected : SpecF := ownSp true [.slice .bool] 3 (.int .i64) (fun (a', _) => a'.length ≤ 60) (fun (a', _) => selI a')
theorem selected_sp : SpFact 68 sp_selected := by
  refine ⟨⟨Try.f68, rfl, rfl, rfl, ownSp_ok (env_fine (sp := []) (eq := []) True.intro True.intro) rfl (fun _ => rfl) ?_⟩, ownSp_loc _ _ _ _ _ _⟩
  rintro ⟨a, u⟩ - hl
  change List Bool at a
  have hl : a.length ≤ 60 := hl
  (refine fnM_of rfl rfl rfl rfl ?_; dsimp only [params, argAV, Ty.leaves, Ty.isSt])
  (repeat' (first | (with_reducible refine Cend.go ?_) | (with_reducible refine Step.mk True.intro ?_) | (with_reducible refine Step.mk ?_ ?_; focus (((try simp only [true_and, and_true, and_self, kmin, kmax, decide_eq_true_eq, decide_eq_false_iff_not, castD_self, castL_self, List.length_cons, List.length_nil, List.length_append, Int.natCast_add] at *) <;> omega))) | (with_reducible refine Step.mk ?_ ?_) | (with_reducible refine Way.t1 ?_) | (with_reducible refine Way.f1 ?_) | ((with_reducible refine Way.dec (fun _ => ?_) (fun _ => ?_)) <;> try (exfalso; omega)) | (with_reducible refine Way.nt ?_) | (with_reducible refine Way.mk (fun _ => ?_) (fun _ => ?_)) | (with_reducible refine Drawn.mk (by kernel_rfl) ?_) | (refine Run.mk ?_)))
  refine loop_by (X := Nat) (fun x => [.put 0 (.v false [.d (.slice .bool) a]), .put 3 (.v false [.o 91]), .put 6 (.v false [.d (.slice .bool) a]), .put 7 (.v false [.d (.int .i64) (a.length : Int)]), .put 8 (.v false [.d (.int .i64) (x : Int)])])
    (fun x => [.put 91 (.row 3 (.int .i64) (selK (fun i => a.getD i false) x))]) (fun x => x ≤ a.length) (fun x => a.length - x) 0 (Nat.zero_le _) ?_ ?_
  · refine Wk.trans (Wk.nilrow 3 91 3 (.int .i64) rfl) ?_
    (refine Wk.keep ?_ ?_ <;> repeat' (first | exact True.intro | refine And.intro rfl ?_ | refine And.intro (congrArg (fun z : Int => AV.v false [Lf.d (.int .i64) z]) (by first | omega | (simp only [Int.natCast_add, List.length_cons, List.length_append, List.length_nil]; omega))) ?_ | refine And.intro ?_ ?_))
  intro k hk
  dsimp only at hk ⊢
  by_cases hlt : k < a.length
  · have hlen := selK_len (fun i => a.getD i false) k
    have hst : selK (fun i => a.getD i false) (k + 1) = if a.getD k false then selK (fun i => a.getD i false) k ++ [(k : Int)] else selK (fun i => a.getD i false) k := rfl
    obtain ⟨s, hs⟩ : ∃ s, selK (fun i => a.getD i false) k = s := ⟨_, rfl⟩
    rw [hs] at hlen hst ⊢
    clear hs
    replace hst := Lib.hid hst
    (repeat' (first | (with_reducible refine Cend.go ?_) | (with_reducible refine Step.mk True.intro ?_) | (with_reducible refine Step.mk ?_ ?_; focus (((try simp only [true_and, and_true, and_self, kmin, kmax, decide_eq_true_eq, decide_eq_false_iff_not, castD_self, castL_self, List.length_cons, List.length_nil, List.length_append, Int.natCast_add] at *) <;> omega))) | (with_reducible refine Step.mk ?_ ?_) | (with_reducible refine Way.t1 ?_) | (with_reducible refine Way.f1 ?_) | ((with_reducible refine Way.dec (fun _ => ?_) (fun _ => ?_)) <;> try (exfalso; omega)) | (with_reducible refine Way.nt ?_) | (with_reducible refine Way.mk (fun _ => ?_) (fun _ => ?_)) | (with_reducible refine Drawn.mk (by kernel_rfl) ?_) | (refine Run.mk ?_)))
    · rename_i hx
      have hx : a.getD k false = true := hx
      (refine Back.by (k + 1) ?_ ?_ ?_; focus (refine Wk.ren [(91, 17)] rfl ?_ ?_ <;> repeat' (first | exact True.intro | refine And.intro rfl ?_ | refine And.intro (congrArg (fun z : Int => AV.v false [Lf.d (.int .i64) z]) (by first | omega | (simp only [Int.natCast_add, List.length_cons, List.length_append, List.length_nil]; omega))) ?_ | refine And.intro ?_ ?_)))
      · rw [hst.out, if_pos hx]; exact rfl
      · exact hlt
      · show a.length - (k + 1) < a.length - k; omega
    · rename_i hx
      have hx : a.getD k false = false := hx
      (refine Back.by (k + 1) ?_ ?_ ?_; focus (refine Wk.keep ?_ ?_ <;> repeat' (first | exact True.intro | refine And.intro rfl ?_ | refine And.intro (congrArg (fun z : Int => AV.v false [Lf.d (.int .i64) z]) (by first | omega | (simp only [Int.natCast_add, List.length_cons, List.length_append, List.length_nil]; omega))) ?_ | refine And.intro ?_ ?_)))
      · rw [hst.out, if_neg (by rw [hx]; decide)]; exact rfl
      · exact hlt
      · show a.length - (k + 1) < a.length - k; omega
  · have e : k = a.length := by omega
    subst e
    (repeat' (first | (with_reducible refine Cend.go ?_) | (with_reducible refine Step.mk True.intro ?_) | (with_reducible refine Step.mk ?_ ?_; focus (((try simp only [true_and, and_true, and_self, kmin, kmax, decide_eq_true_eq, decide_eq_false_iff_not, castD_self, castL_self, List.length_cons, List.length_nil, List.length_append, Int.natCast_add] at *) <;> omega))) | (with_reducible refine Step.mk ?_ ?_) | (with_reducible refine Way.t1 ?_) | (with_reducible refine Way.f1 ?_) | ((with_reducible refine Way.dec (fun _ => ?_) (fun _ => ?_)) <;> try (exfalso; omega)) | (with_reducible refine Way.nt ?_) | (with_reducible refine Way.mk (fun _ => ?_) (fun _ => ?_)) | (with_reducible refine Drawn.mk (by kernel_rfl) ?_) | (refine Run.mk ?_)))
    exact Ret.mk (.inl ⟨_, rfl, rfl⟩)

def sp_leaf : SpecF := pureSp false [tNd, tCm, .int .i64] (fun (n', _, _, _) => n'.1 = 2 ∨ n'.1 = 3) (fun (n', _, i', _) => .v false [.d .bool (decide (n'.1 = 3) && decide (i' = n'.2.1))])
theorem leaf_sp : SpFact 57 sp_leaf := by
  refine ⟨⟨Try.f57, rfl, rfl, rfl, pureSp_ok (env_fine (sp := []) (eq := []) True.intro True.intro) rfl (fun _ _ => rfl) ?_⟩, pureSp_loc _ _ _ _⟩
  rintro ⟨⟨k, n, a, b⟩, ⟨par, au, ti, tr, ms⟩, i, u⟩ - hk
  change List Int at par
  change Int at k n a b au ti tr i
  change ByteArray at ms
  rcases hk with hk | hk
  · obtain rfl : k = 2 := hk
    (refine fnM_of rfl rfl rfl rfl ?_; dsimp only [params, argAV, Ty.leaves, Ty.isSt])
    (repeat' (first | (with_reducible refine Cend.go ?_) | (with_reducible refine Step.mk True.intro ?_) | (with_reducible refine Step.mk ?_ ?_; focus (((try simp only [true_and, and_true, and_self, kmin, kmax, decide_eq_true_eq, decide_eq_false_iff_not, castD_self, castL_self, List.length_cons, List.length_nil, List.length_append, Int.natCast_add] at *) <;> omega))) | (with_reducible refine Step.mk ?_ ?_) | (with_reducible refine Way.t1 ?_) | (with_reducible refine Way.f1 ?_) | ((with_reducible refine Way.dec (fun _ => ?_) (fun _ => ?_)) <;> try (exfalso; omega)) | (with_reducible refine Way.nt ?_) | (with_reducible refine Way.mk (fun _ => ?_) (fun _ => ?_)) | (with_reducible refine Drawn.mk (by kernel_rfl) ?_) | (refine Run.mk ?_)))
    exact Ret.mk rfl
  · obtain rfl : k = 3 := hk
    (refine fnM_of rfl rfl rfl rfl ?_; dsimp only [params, argAV, Ty.leaves, Ty.isSt])
    (repeat' (first | (with_reducible refine Cend.go ?_) | (with_reducible refine Step.mk True.intro ?_) | (with_reducible refine Step.mk ?_ ?_; focus (((try simp only [true_and, and_true, and_self, kmin, kmax, decide_eq_true_eq, decide_eq_false_iff_not, castD_self, castL_self, List.length_cons, List.length_nil, List.length_append, Int.natCast_add] at *) <;> omega))) | (with_reducible refine Step.mk ?_ ?_) | (with_reducible refine Way.t1 ?_) | (with_reducible refine Way.f1 ?_) | ((with_reducible refine Way.dec (fun _ => ?_) (fun _ => ?_)) <;> try (exfalso; omega)) | (with_reducible refine Way.nt ?_) | (with_reducible refine Way.mk (fun _ => ?_) (fun _ => ?_)) | (with_reducible refine Drawn.mk (by kernel_rfl) ?_) | (refine Run.mk ?_)))
    exact Ret.mk rfl

def sp_related : SpecF := ownSp true [.slice tCm, .slice .bool, .bool] 4 .bool (fun (l', s', b', _) => hC l' = 0 ∧ s'.length = l'.length ∧ b' = false) (fun (l', s', _, _) => relB l' s')
set_option maxHeartbeats 1000000 in
theorem related_sp : SpFact 70 sp_related := by
  refine ⟨⟨Try.f70, rfl, rfl, rfl, ownSp_ok (env_fine (sp := []) (eq := []) True.intro True.intro) rfl (fun _ => rfl) ?_⟩, ownSp_loc _ _ _ _ _ _⟩
  rintro ⟨l, s, b, u⟩ - ⟨hC, he, hb⟩
  change List Cm at l
  change List Bool at s
  have he : s.length = l.length := he
  obtain rfl : b = false := hb
  have hp := parOk_of hC
  have hl : l.length ≤ 60 := (hC_all.1 hC).1
  have hb : ∀ c ∈ l, c.1.length ≤ 3 := fun c hc => by
    obtain ⟨j, hj, rfl⟩ := List.mem_iff_getElem.1 hc
    exact (cmC_good ((hC_all.1 hC).2 j hj)).1
  replace hC := Lib.hid hC
  replace hp := Lib.hid hp
  replace hb := Lib.hid hb
  (refine fnM_of rfl rfl rfl rfl ?_; dsimp only [params, argAV, Ty.leaves, Ty.isSt])
  (repeat' (first | (with_reducible refine Cend.go ?_) | (with_reducible refine Step.mk True.intro ?_) | (with_reducible refine Step.mk ?_ ?_; focus (((try simp only [true_and, and_true, and_self, kmin, kmax, decide_eq_true_eq, decide_eq_false_iff_not, castD_self, castL_self, List.length_cons, List.length_nil, List.length_append, Int.natCast_add] at *) <;> omega))) | (with_reducible refine Step.mk ?_ ?_) | (with_reducible refine Way.t1 ?_) | (with_reducible refine Way.f1 ?_) | ((with_reducible refine Way.dec (fun _ => ?_) (fun _ => ?_)) <;> try (exfalso; omega)) | (with_reducible refine Way.nt ?_) | (with_reducible refine Way.mk (fun _ => ?_) (fun _ => ?_)) | (with_reducible refine Drawn.mk (by kernel_rfl) ?_) | (refine Run.mk ?_)))
  refine loop_by (X := Nat) (fun x => [.put 1 (.v false [.d (.slice .bool) s]), .put 2 (.v false [.d .bool false]), .put 7 (.v false [.o 14]), .put 15 (.v false [.d (.slice tCm) l]), .put 16 (.v false [.d (.int .i64) (l.length : Int)]), .put 17 (.v false [.d (.int .i64) (x : Int)])])
    (fun x => [.put 14 (.row 4 .bool (rlS l s x))]) (fun x => x ≤ l.length) (fun x => l.length - x) 0 (Nat.zero_le _) ?_ ?_
  · (refine Wk.keep ?_ ?_ <;> repeat' (first | exact True.intro | refine And.intro rfl ?_ | refine And.intro (congrArg (fun z : Int => AV.v false [Lf.d (.int .i64) z]) (by first | omega | (simp only [Int.natCast_add, List.length_cons, List.length_append, List.length_nil]; omega))) ?_ | refine And.intro ?_ ?_))
  intro k hk
  dsimp only at hk ⊢
  by_cases hlt : k < l.length
  · have hpo : parO l k = l[k].1 := parO_of hlt
    have hpr : ∀ p ∈ parO l k, 0 ≤ p ∧ p < k := by rw [hpo]; exact hp.out k hlt
    have hpl : (parO l k).length ≤ 3 := by rw [hpo]; exact hb.out _ (List.getElem_mem hlt)
    have hlen : (rlS l s k).length = l.length := rlS_len l s k
    have hst : rlS l s (k + 1) = upR (s.getD k false) (parO l k) (rlS l s k) := rfl
    obtain ⟨r, hr⟩ : ∃ r, rlS l s k = r := ⟨_, rfl⟩
    rw [hr] at hlen hst ⊢
    clear hr hpo
    change ∀ p ∈ (l.getD ((k : Int)).toNat tCm.dflt).1, 0 ≤ p ∧ p < k at hpr
    change (l.getD ((k : Int)).toNat tCm.dflt).1.length ≤ 3 at hpl
    change rlS l s (k + 1) = upR (s.getD k false) (l.getD ((k : Int)).toNat tCm.dflt).1 r at hst
    replace hst := Lib.hid hst
    replace hpr := Lib.hid hpr
    (repeat' (first | (with_reducible refine Cend.go ?_) | (with_reducible refine Step.mk True.intro ?_) | (with_reducible refine Step.mk ?_ ?_; focus (((try simp only [true_and, and_true, and_self, kmin, kmax, decide_eq_true_eq, decide_eq_false_iff_not, castD_self, castL_self, List.length_cons, List.length_nil, List.length_append, Int.natCast_add] at *) <;> omega))) | (with_reducible refine Step.mk ?_ ?_) | (with_reducible refine Way.t1 ?_) | (with_reducible refine Way.f1 ?_) | ((with_reducible refine Way.dec (fun _ => ?_) (fun _ => ?_)) <;> try (exfalso; omega)) | (with_reducible refine Way.nt ?_) | (with_reducible refine Way.mk (fun _ => ?_) (fun _ => ?_)) | (with_reducible refine Drawn.mk (by kernel_rfl) ?_) | (refine Run.mk ?_)))
    generalize (l.getD ((k : Int)).toNat tCm.dflt).1 = ps at *
    have hpr := hpr.out
    refine loop_by (X := Nat) (fun x => [.put 1 (.v false [.d (.slice .bool) s]), .put 2 (.v false [.d .bool false]), .put 7 (.v false [.o 14]), .put 8 (.v false [.d (.int .i64) (k : Int)]), .put 15 (.v false [.d (.slice tCm) l]), .put 16 (.v false [.d (.int .i64) (l.length : Int)]), .put 17 (.v false [.d (.int .i64) (k : Int)]), .put 23 (.v false [.d (.slice (.int .i64)) ps]), .put 24 (.v false [.d (.int .i64) (ps.length : Int)]), .put 25 (.v false [.d (.int .i64) (x : Int)])])
      (fun x => [.put 14 (.row 4 .bool (upR (s.getD k false) (ps.take x) r))]) (fun x => x ≤ ps.length) (fun x => ps.length - x) 0 (Nat.zero_le _) ?_ ?_
    · (refine Wk.keep ?_ ?_ <;> repeat' (first | exact True.intro | refine And.intro rfl ?_ | refine And.intro (congrArg (fun z : Int => AV.v false [Lf.d (.int .i64) z]) (by first | omega | (simp only [Int.natCast_add, List.length_cons, List.length_append, List.length_nil]; omega))) ?_ | refine And.intro ?_ ?_))
    intro q hq
    by_cases hlq : q < ps.length
    · have hg : ps.getD ((q : Int)).toNat (Ty.int .i64).dflt = ps[q] := getD_of _ hlq
      obtain ⟨n0, n1⟩ := hpr _ (List.getElem_mem hlq)
      have hlen' : (upR (s.getD k false) (ps.take q) r).length = l.length := by rw [upR_len, hlen]
      have hsq := upR_take (b := s.getD k false) (s := r) hlq
      rw [← hg] at n0 n1 hsq
      generalize upR (s.getD k false) (ps.take q) r = r2 at *
      clear hg hpr hst
      replace hsq := Lib.hid hsq
      (repeat' (first | (with_reducible refine Cend.go ?_) | (with_reducible refine Step.mk True.intro ?_) | (with_reducible refine Step.mk ?_ ?_; focus (((try simp only [true_and, and_true, and_self, kmin, kmax, decide_eq_true_eq, decide_eq_false_iff_not, castD_self, castL_self, List.length_cons, List.length_nil, List.length_append, Int.natCast_add] at *) <;> omega))) | (with_reducible refine Step.mk ?_ ?_) | (with_reducible refine Way.t1 ?_) | (with_reducible refine Way.f1 ?_) | ((with_reducible refine Way.dec (fun _ => ?_) (fun _ => ?_)) <;> try (exfalso; omega)) | (with_reducible refine Way.nt ?_) | (with_reducible refine Way.mk (fun _ => ?_) (fun _ => ?_)) | (with_reducible refine Drawn.mk (by kernel_rfl) ?_) | (refine Run.mk ?_)))
      · rename_i hx
        have hx : r2.getD (ps.getD ((q : Int)).toNat (Ty.int .i64).dflt).toNat false = true := hx
        (refine Back.by (q + 1) ?_ ?_ ?_; focus (refine Wk.keep ?_ ?_ <;> repeat' (first | exact True.intro | refine And.intro rfl ?_ | refine And.intro (congrArg (fun z : Int => AV.v false [Lf.d (.int .i64) z]) (by first | omega | (simp only [Int.natCast_add, List.length_cons, List.length_append, List.length_nil]; omega))) ?_ | refine And.intro ?_ ?_)))
        · rw [hsq.out, hx, Bool.true_or]; exact rfl
        · exact hlq
        · show ps.length - (q + 1) < ps.length - q; omega
      · rename_i hx
        have hx : r2.getD (ps.getD ((q : Int)).toNat (Ty.int .i64).dflt).toNat false = false := hx
        (refine Back.by (q + 1) ?_ ?_ ?_; focus (refine Wk.keep ?_ ?_ <;> repeat' (first | exact True.intro | refine And.intro rfl ?_ | refine And.intro (congrArg (fun z : Int => AV.v false [Lf.d (.int .i64) z]) (by first | omega | (simp only [Int.natCast_add, List.length_cons, List.length_append, List.length_nil]; omega))) ?_ | refine And.intro ?_ ?_)))
        · rw [hsq.out, hx, Bool.false_or]; exact rfl
        · exact hlq
        · show ps.length - (q + 1) < ps.length - q; omega
    · have e : ps.take q = ps := List.take_of_length_le (by omega)
      rw [e]
      (repeat' (first | (with_reducible refine Cend.go ?_) | (with_reducible refine Step.mk True.intro ?_) | (with_reducible refine Step.mk ?_ ?_; focus (((try simp only [true_and, and_true, and_self, kmin, kmax, decide_eq_true_eq, decide_eq_false_iff_not, castD_self, castL_self, List.length_cons, List.length_nil, List.length_append, Int.natCast_add] at *) <;> omega))) | (with_reducible refine Step.mk ?_ ?_) | (with_reducible refine Way.t1 ?_) | (with_reducible refine Way.f1 ?_) | ((with_reducible refine Way.dec (fun _ => ?_) (fun _ => ?_)) <;> try (exfalso; omega)) | (with_reducible refine Way.nt ?_) | (with_reducible refine Way.mk (fun _ => ?_) (fun _ => ?_)) | (with_reducible refine Drawn.mk (by kernel_rfl) ?_) | (refine Run.mk ?_)))
      (refine Back.by (k + 1) ?_ ?_ ?_; focus (refine Wk.keep ?_ ?_ <;> repeat' (first | exact True.intro | refine And.intro rfl ?_ | refine And.intro (congrArg (fun z : Int => AV.v false [Lf.d (.int .i64) z]) (by first | omega | (simp only [Int.natCast_add, List.length_cons, List.length_append, List.length_nil]; omega))) ?_ | refine And.intro ?_ ?_)))
      · rw [hst.out]; exact rfl
      · exact hlt
      · show l.length - (k + 1) < l.length - k; omega
  · have e : k = l.length := by omega
    subst e
    (repeat' (first | (with_reducible refine Cend.go ?_) | (with_reducible refine Step.mk True.intro ?_) | (with_reducible refine Step.mk ?_ ?_; focus (((try simp only [true_and, and_true, and_self, kmin, kmax, decide_eq_true_eq, decide_eq_false_iff_not, castD_self, castL_self, List.length_cons, List.length_nil, List.length_append, Int.natCast_add] at *) <;> omega))) | (with_reducible refine Step.mk ?_ ?_) | (with_reducible refine Way.t1 ?_) | (with_reducible refine Way.f1 ?_) | ((with_reducible refine Way.dec (fun _ => ?_) (fun _ => ?_)) <;> try (exfalso; omega)) | (with_reducible refine Way.nt ?_) | (with_reducible refine Way.mk (fun _ => ?_) (fun _ => ?_)) | (with_reducible refine Drawn.mk (by kernel_rfl) ?_) | (refine Run.mk ?_)))
    exact Ret.mk (.inl ⟨_, rfl, rfl⟩)
end Go.Proofs.Ytgdlbpihkodeoaa
