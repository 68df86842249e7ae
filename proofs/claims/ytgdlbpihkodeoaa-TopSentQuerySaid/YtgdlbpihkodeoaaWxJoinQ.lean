/- The laws' queries: Arity, joined, Join, Wrap, mlCommits, mlSelects. -/
import Derived.Test.YtgdlbpihkodeoaaJqPure
import Derived.Test.YtgdlbpihkodeoaaWxEval
namespace Go.Proofs.Ytgdlbpihkodeoaa
open Go.RowKit
set_option maxRecDepth 20000
set_option linter.unusedSimpArgs false

def sp_Arity : SpecF := pureSp true [.int .i64] (fun _ => True) (fun (k', _) => .v false [.d (.int .i64) (ary k' : Int)])
theorem Arity_sp : SpFact 62 sp_Arity := by
  refine ⟨⟨Try.f62, rfl, rfl, rfl, pureSp_ok (env_fine (sp := []) (eq := []) True.intro True.intro) rfl (fun ⟨_, _⟩ _ => rfl) ?_⟩, pureSp_loc _ _ _ _⟩
  rintro ⟨k, u⟩ - -
  change Int at k
  dsimp only
  by_cases h1 : 14 ≤ k
  · have e : ary k = 2 := if_pos h1
    rw [e]
    (refine fnM_of rfl rfl rfl rfl ?_; dsimp only [params, argAV, Ty.leaves, Ty.isSt])
    (repeat' (first | (with_reducible refine Cend.go ?_) | (with_reducible refine Step.mk True.intro ?_) | (with_reducible refine Step.mk ?_ ?_; focus (((try simp only [true_and, and_true, and_self, kmin, kmax, decide_eq_true_eq, decide_eq_false_iff_not, castD_self, castL_self, List.length_cons, List.length_nil, List.length_append, Int.natCast_add] at *) <;> omega))) | (with_reducible refine Step.mk ?_ ?_) | (with_reducible refine Way.t1 ?_) | (with_reducible refine Way.f1 ?_) | ((with_reducible refine Way.dec (fun _ => ?_) (fun _ => ?_)) <;> try (exfalso; omega)) | (with_reducible refine Way.nt ?_) | (with_reducible refine Way.mk (fun _ => ?_) (fun _ => ?_)) | (with_reducible refine Drawn.mk (by kernel_rfl) ?_) | (refine Run.mk ?_)))
    exact Ret.mk rfl
  · by_cases h2 : 7 ≤ k
    · have e : ary k = 1 := (if_neg h1).trans (if_pos h2)
      rw [e]
      (refine fnM_of rfl rfl rfl rfl ?_; dsimp only [params, argAV, Ty.leaves, Ty.isSt])
      (repeat' (first | (with_reducible refine Cend.go ?_) | (with_reducible refine Step.mk True.intro ?_) | (with_reducible refine Step.mk ?_ ?_; focus (((try simp only [true_and, and_true, and_self, kmin, kmax, decide_eq_true_eq, decide_eq_false_iff_not, castD_self, castL_self, List.length_cons, List.length_nil, List.length_append, Int.natCast_add] at *) <;> omega))) | (with_reducible refine Step.mk ?_ ?_) | (with_reducible refine Way.t1 ?_) | (with_reducible refine Way.f1 ?_) | ((with_reducible refine Way.dec (fun _ => ?_) (fun _ => ?_)) <;> try (exfalso; omega)) | (with_reducible refine Way.nt ?_) | (with_reducible refine Way.mk (fun _ => ?_) (fun _ => ?_)) | (with_reducible refine Drawn.mk (by kernel_rfl) ?_) | (refine Run.mk ?_)))
      exact Ret.mk rfl
    · have e : ary k = 0 := (if_neg h1).trans (if_neg h2)
      rw [e]
      (refine fnM_of rfl rfl rfl rfl ?_; dsimp only [params, argAV, Ty.leaves, Ty.isSt])
      (repeat' (first | (with_reducible refine Cend.go ?_) | (with_reducible refine Step.mk True.intro ?_) | (with_reducible refine Step.mk ?_ ?_; focus (((try simp only [true_and, and_true, and_self, kmin, kmax, decide_eq_true_eq, decide_eq_false_iff_not, castD_self, castL_self, List.length_cons, List.length_nil, List.length_append, Int.natCast_add] at *) <;> omega))) | (with_reducible refine Step.mk ?_ ?_) | (with_reducible refine Way.t1 ?_) | (with_reducible refine Way.f1 ?_) | ((with_reducible refine Way.dec (fun _ => ?_) (fun _ => ?_)) <;> try (exfalso; omega)) | (with_reducible refine Way.nt ?_) | (with_reducible refine Way.mk (fun _ => ?_) (fun _ => ?_)) | (with_reducible refine Drawn.mk (by kernel_rfl) ?_) | (refine Run.mk ?_)))
      exact Ret.mk rfl

def sp_joined : SpecF := ownSp true [.int .i64, .slice tNd, .slice tNd] 77 tNd (fun (_, a', b', _) => smN a' ∧ smN b') (fun (k', a', b', _) => joinP k' a' b')
theorem joined_sp : SpFact 40 sp_joined := by
  refine ⟨⟨Try.f40, rfl, rfl, rfl, ownSp_ok (env_fine (sp := [(62, sp_Arity)]) (eq := []) ⟨Arity_sp, True.intro⟩ True.intro) rfl (fun _ => rfl) ?_⟩, ownSp_loc _ _ _ _ _ _⟩
  rintro ⟨k, a, b, u⟩ - ⟨ha, hb⟩
  change Int at k
  change List Nd at a b
  have ha := ha.len
  have hbl := hb.len
  have hbo := hb.ops
  change ∀ n ∈ b, _ at hbo
  have hbl : b.length ≤ 1000 := hbl
  have ha : a.length ≤ 1000 := ha
  clear hb
  replace hbo := Lib.hid hbo
  (refine fnM_of rfl rfl rfl rfl ?_; dsimp only [params, argAV, Ty.leaves, Ty.isSt])
  (repeat' (first | (with_reducible refine Cend.go ?_) | (with_reducible refine Step.mk True.intro ?_) | (with_reducible refine Step.mk ?_ ?_; focus (((try simp only [true_and, and_true, and_self, kmin, kmax, decide_eq_true_eq, decide_eq_false_iff_not, castD_self, castL_self, List.length_cons, List.length_nil, List.length_append, Int.natCast_add] at *) <;> omega))) | (with_reducible refine Step.mk ?_ ?_) | (with_reducible refine Way.t1 ?_) | (with_reducible refine Way.f1 ?_) | ((with_reducible refine Way.dec (fun _ => ?_) (fun _ => ?_)) <;> try (exfalso; omega)) | (with_reducible refine Way.nt ?_) | (with_reducible refine Way.mk (fun _ => ?_) (fun _ => ?_)) | (with_reducible refine Drawn.mk (by kernel_rfl) ?_) | (refine Run.mk ?_)))
  refine loop_by (X := Nat) (fun x => [.put 0 (.v false [.d (.int .i64) k]), .put 1 (.v false [.d (.slice tNd) a]), .put 2 (.v false [.d (.slice tNd) b]), .put 7 (.v false [.o 91]), .put 8 (.v false [.d (.int .i64) (x : Int)])])
    (fun x => [.put 91 (.row 77 tNd (a ++ (b.take x).map (ndMv a.length)))]) (fun x => x ≤ b.length) (fun x => b.length - x) 0 (Nat.zero_le _) ?_ ?_
  · (refine Wk.ren [(91, 11)] rfl ?_ ?_ <;> repeat' (first | exact True.intro | refine And.intro rfl ?_ | refine And.intro (congrArg (fun z : Int => AV.v false [Lf.d (.int .i64) z]) (by first | omega | (simp only [Int.natCast_add, List.length_cons, List.length_append, List.length_nil]; omega))) ?_ | refine And.intro ?_ ?_))
    show some (Ob.row _ tNd ([] ++ a)) = some (Ob.row _ tNd (a ++ []))
    rw [List.nil_append, List.append_nil]
  intro q hq
  by_cases hlt : q < b.length
  · have hg : b.getD ((q : Int)).toNat tNd.dflt = b[q] := getD_of _ hlt
    obtain ⟨⟨m0, m1⟩, m2, m3⟩ := hbo.out _ (List.getElem_mem hlt)
    have hst : (b.take (q + 1)).map (ndMv a.length) = (b.take q).map (ndMv a.length) ++ [ndMv a.length b[q]] := by
      rw [List.take_add_one, List.getElem?_eq_getElem hlt, Option.toList_some, List.map_append]; rfl
    have hll : ((b.take q).map (ndMv a.length)).length = q := by rw [List.length_map, List.length_take]; omega
    rw [← hg] at m0 m1 m2 m3 hst
    generalize (b.take q).map (ndMv a.length) = c at *
    clear hg
    replace hst := Lib.hid hst
    (repeat' (first | (with_reducible refine Cend.go ?_) | (with_reducible refine Step.mk True.intro ?_) | (with_reducible refine Step.mk ?_ ?_; focus (((try simp only [true_and, and_true, and_self, kmin, kmax, decide_eq_true_eq, decide_eq_false_iff_not, castD_self, castL_self, List.length_cons, List.length_nil, List.length_append, Int.natCast_add] at *) <;> omega))) | (with_reducible refine Step.mk ?_ ?_) | (with_reducible refine Way.t1 ?_) | (with_reducible refine Way.f1 ?_) | ((with_reducible refine Way.dec (fun _ => ?_) (fun _ => ?_)) <;> try (exfalso; omega)) | (with_reducible refine Way.nt ?_) | (with_reducible refine Way.mk (fun _ => ?_) (fun _ => ?_)) | (with_reducible refine Drawn.mk (by kernel_rfl) ?_) | (refine Run.mk ?_)))
    · (refine Back.by (q + 1) ?_ ?_ ?_; focus (refine Wk.ren [(91, 45)] rfl ?_ ?_ <;> repeat' (first | exact True.intro | refine And.intro rfl ?_ | refine And.intro (congrArg (fun z : Int => AV.v false [Lf.d (.int .i64) z]) (by first | omega | (simp only [Int.natCast_add, List.length_cons, List.length_append, List.length_nil]; omega))) ?_ | refine And.intro ?_ ?_)))
      · have e : ndMv a.length (b.getD ((q : Int)).toNat tNd.dflt) = ((b.getD ((q : Int)).toNat tNd.dflt).1, (b.getD ((q : Int)).toNat tNd.dflt).2.1, (b.getD ((q : Int)).toNat tNd.dflt).2.2.1 + a.length, (b.getD ((q : Int)).toNat tNd.dflt).2.2.2 + a.length) := by
          unfold ndMv
          rw [if_pos (by omega), if_pos (by omega)]
        rw [hst.out, ← List.append_assoc, e]; exact rfl
      · exact hlt
      · show b.length - (q + 1) < b.length - q; omega
    · (refine Back.by (q + 1) ?_ ?_ ?_; focus (refine Wk.ren [(91, 45)] rfl ?_ ?_ <;> repeat' (first | exact True.intro | refine And.intro rfl ?_ | refine And.intro (congrArg (fun z : Int => AV.v false [Lf.d (.int .i64) z]) (by first | omega | (simp only [Int.natCast_add, List.length_cons, List.length_append, List.length_nil]; omega))) ?_ | refine And.intro ?_ ?_)))
      · have e : ndMv a.length (b.getD ((q : Int)).toNat tNd.dflt) = ((b.getD ((q : Int)).toNat tNd.dflt).1, (b.getD ((q : Int)).toNat tNd.dflt).2.1, (b.getD ((q : Int)).toNat tNd.dflt).2.2.1 + a.length, (b.getD ((q : Int)).toNat tNd.dflt).2.2.2) := by
          unfold ndMv
          rw [if_pos (by omega), if_neg (by omega)]
        rw [hst.out, ← List.append_assoc, e]; exact rfl
      · exact hlt
      · show b.length - (q + 1) < b.length - q; omega
    · (refine Back.by (q + 1) ?_ ?_ ?_; focus (refine Wk.ren [(91, 45)] rfl ?_ ?_ <;> repeat' (first | exact True.intro | refine And.intro rfl ?_ | refine And.intro (congrArg (fun z : Int => AV.v false [Lf.d (.int .i64) z]) (by first | omega | (simp only [Int.natCast_add, List.length_cons, List.length_append, List.length_nil]; omega))) ?_ | refine And.intro ?_ ?_)))
      · have e : ndMv a.length (b.getD ((q : Int)).toNat tNd.dflt) = ((b.getD ((q : Int)).toNat tNd.dflt).1, (b.getD ((q : Int)).toNat tNd.dflt).2.1, (b.getD ((q : Int)).toNat tNd.dflt).2.2.1, (b.getD ((q : Int)).toNat tNd.dflt).2.2.2) := by
          unfold ndMv
          rw [if_neg (by omega), if_neg (by omega)]
        rw [hst.out, ← List.append_assoc, e]; exact rfl
      · exact hlt
      · show b.length - (q + 1) < b.length - q; omega
  · have e : b.take q = b := List.take_of_length_le (by omega)
    rw [e]
    (repeat' (first | (with_reducible refine Cend.go ?_) | (with_reducible refine Step.mk True.intro ?_) | (with_reducible refine Step.mk ?_ ?_; focus (((try simp only [true_and, and_true, and_self, kmin, kmax, decide_eq_true_eq, decide_eq_false_iff_not, castD_self, castL_self, List.length_cons, List.length_nil, List.length_append, Int.natCast_add] at *) <;> omega))) | (with_reducible refine Step.mk ?_ ?_) | (with_reducible refine Way.t1 ?_) | (with_reducible refine Way.f1 ?_) | ((with_reducible refine Way.dec (fun _ => ?_) (fun _ => ?_)) <;> try (exfalso; omega)) | (with_reducible refine Way.nt ?_) | (with_reducible refine Way.mk (fun _ => ?_) (fun _ => ?_)) | (with_reducible refine Drawn.mk (by kernel_rfl) ?_) | (refine Run.mk ?_)))
    · show ((a ++ List.map (ndMv a.length) b).length + 1) * 32 ≤ 140737488355328 ∧ (a ++ List.map (ndMv a.length) b).length + 1 ≤ 1000000000000
      rw [List.length_append, List.length_map]
      omega
    exact Ret.mk (.inl ⟨_, rfl, rfl⟩)

def sp_Join : SpecF := pureSp false [.int .i64, .st (.slice tNd), .st (.slice tNd)] (fun (_, a', b', _) => smN a' ∧ smN b') (fun (k', a', b', _) => .v true [.d (.slice tNd) (joinP k' a' b')])
theorem Join_sp : SpFact 16 sp_Join := by
  refine ⟨⟨Try.f16, rfl, rfl, rfl, pureSp_okF (env_fine (sp := [(40, sp_joined)]) (eq := []) ⟨joined_sp, True.intro⟩ True.intro) rfl (fun _ _ => rfl) ?_⟩, pureSp_loc _ _ _ _⟩
  rintro ⟨k, a, b, u⟩ - ⟨ha, hb⟩
  change Int at k
  change List Nd at a b
  replace ha := Lib.hid ha
  replace hb := Lib.hid hb
  (refine fnM_of rfl rfl rfl rfl ?_; dsimp only [params, argAV, Ty.leaves, Ty.isSt])
  (repeat' (first | (with_reducible refine Cend.go ?_) | (with_reducible refine Step.mk True.intro ?_) | (with_reducible refine Step.mk ?_ ?_; focus (((try simp only [true_and, and_true, and_self, kmin, kmax, decide_eq_true_eq, decide_eq_false_iff_not, castD_self, castL_self, List.length_cons, List.length_nil, List.length_append, Int.natCast_add] at *) <;> omega))) | (with_reducible refine Step.mk ?_ ?_) | (with_reducible refine Way.t1 ?_) | (with_reducible refine Way.f1 ?_) | ((with_reducible refine Way.dec (fun _ => ?_) (fun _ => ?_)) <;> try (exfalso; omega)) | (with_reducible refine Way.nt ?_) | (with_reducible refine Way.mk (fun _ => ?_) (fun _ => ?_)) | (with_reducible refine Drawn.mk (by kernel_rfl) ?_) | (refine Run.mk ?_)))
  · exact ⟨ha.out, hb.out⟩
  exact Ret.mk ⟨rfl, .frz rfl, True.intro⟩

def sp_Wrap : SpecF := pureSp false [.int .i64, .st (.slice tNd)] (fun (_, a', _) => smN a') (fun (k', a', _) => .v true [.d (.slice tNd) (wrapP k' a')])
theorem Wrap_sp : SpFact 17 sp_Wrap := by
  refine ⟨⟨Try.f17, rfl, rfl, rfl, pureSp_okF (env_fine (sp := []) (eq := []) True.intro True.intro) rfl (fun _ _ => rfl) ?_⟩, pureSp_loc _ _ _ _⟩
  rintro ⟨k, a, u⟩ - ha
  change Int at k
  change List Nd at a
  have hal : a.length ≤ 1000 := ha.len
  clear ha
  (refine fnM_of rfl rfl rfl rfl ?_; dsimp only [params, argAV, Ty.leaves, Ty.isSt])
  (repeat' (first | (with_reducible refine Cend.go ?_) | (with_reducible refine Step.mk True.intro ?_) | (with_reducible refine Step.mk ?_ ?_; focus (((try simp only [true_and, and_true, and_self, kmin, kmax, decide_eq_true_eq, decide_eq_false_iff_not, castD_self, castL_self, List.length_cons, List.length_nil, List.length_append, Int.natCast_add] at *) <;> omega))) | (with_reducible refine Step.mk ?_ ?_) | (with_reducible refine Way.t1 ?_) | (with_reducible refine Way.f1 ?_) | ((with_reducible refine Way.dec (fun _ => ?_) (fun _ => ?_)) <;> try (exfalso; omega)) | (with_reducible refine Way.nt ?_) | (with_reducible refine Way.mk (fun _ => ?_) (fun _ => ?_)) | (with_reducible refine Drawn.mk (by kernel_rfl) ?_) | (refine Run.mk ?_)))
  exact Ret.mk ⟨rfl, .frz rfl, True.intro⟩

def sp_mlC : SpecF := pureSp false [.slice (.int .i64)] (fun (ns', _) => ns'.length ≤ 60 ∧ ∀ n ∈ ns', 0 ≤ n ∧ n ≤ 59) (fun (ns', _) => .v true [.d (.slice tNd) ((comK ns').at 0)])
theorem mlC_sp : SpFact 18 sp_mlC := by
  refine ⟨⟨Try.f18, rfl, rfl, rfl, pureSp_okF (env1_fine (sp := [(16, sp_Join)]) (eq := []) (inl := []) (cl := [6, 20]) ⟨Join_sp, True.intro⟩ True.intro True.intro) rfl (fun _ _ => rfl) ?_⟩, pureSp_loc _ _ _ _⟩
  rintro ⟨ns, u⟩ - ⟨hl, hn⟩
  change List Int at ns
  have hl : ns.length ≤ 60 := hl
  replace hn := Lib.hid hn
  (refine fnM_of rfl rfl rfl rfl ?_; dsimp only [params, argAV, Ty.leaves, Ty.isSt])
  (repeat' (first | (with_reducible refine Cend.go ?_) | (with_reducible refine Step.mk True.intro ?_) | (with_reducible refine Step.mk ?_ ?_; focus (((try simp only [true_and, and_true, and_self, kmin, kmax, decide_eq_true_eq, decide_eq_false_iff_not, castD_self, castL_self, List.length_cons, List.length_nil, List.length_append, Int.natCast_add] at *) <;> omega))) | (with_reducible refine Step.mk ?_ ?_) | (with_reducible refine Way.t1 ?_) | (with_reducible refine Way.f1 ?_) | ((with_reducible refine Way.dec (fun _ => ?_) (fun _ => ?_)) <;> try (exfalso; omega)) | (with_reducible refine Way.nt ?_) | (with_reducible refine Way.mk (fun _ => ?_) (fun _ => ?_)) | (with_reducible refine Drawn.mk (by kernel_rfl) ?_) | (refine Run.mk ?_)))
  refine loop_by (X := Nat) (fun x => [.put 0 (.v false [.d (.slice (.int .i64)) ns]), .put 2 (.v false [.p 2 0]), .put 3 (.v false [.p 3 0]), .put 4 (.v false [.d (.int .i64) (x : Int)])])
    (fun x => [.put 2 (.box 42 [.nl]), .put 3 (.box 42 [.d (.slice tNd) ((comK (ns.take x)).at 0)])]) (fun x => x ≤ ns.length) (fun x => ns.length - x) 0 (Nat.zero_le _) ?_ ?_
  · (refine Wk.keep ?_ ?_ <;> repeat' (first | exact True.intro | refine And.intro rfl ?_ | refine And.intro (congrArg (fun z : Int => AV.v false [Lf.d (.int .i64) z]) (by first | omega | (simp only [Int.natCast_add, List.length_cons, List.length_append, List.length_nil]; omega))) ?_ | refine And.intro ?_ ?_))
    all_goals skip
  intro q hq
  by_cases hlt : q < ns.length
  · have hg : ns.getD ((q : Int)).toNat (Ty.int .i64).dflt = ns[q] := getD_of _ hlt
    have hst := comK_take hlt
    have hgd := hn.out _ (List.getElem_mem hlt)
    have hsz := comK_size (ns.take q)
    have hs1 : smN ((comK (ns.take q)).at 0) := Qx.smN (by rw [hsz, List.length_take]; omega)
    rw [← hg] at hst hgd
    have hs2 : smN [(3, ns.getD ((q : Int)).toNat (Ty.int .i64).dflt, 0, 0)] := Qx.smN (t := .com _) (by show 1 ≤ 1000; decide)
    have hj : joinP 14 ((comK (ns.take q)).at 0) [(3, ns.getD ((q : Int)).toNat (Ty.int .i64).dflt, 0, 0)] = (comK (ns.take (q + 1))).at 0 := by
      rw [hst]; exact joinP_at (y := .com _) hgd
    clear hg hst hgd hsz
    replace hs1 := Lib.hid hs1
    replace hs2 := Lib.hid hs2
    replace hj := Lib.hid hj
    (repeat' (first | (with_reducible refine Cend.go ?_) | (with_reducible refine Step.mk True.intro ?_) | (with_reducible refine Step.mk ?_ ?_; focus (((try simp only [true_and, and_true, and_self, kmin, kmax, decide_eq_true_eq, decide_eq_false_iff_not, castD_self, castL_self, List.length_cons, List.length_nil, List.length_append, Int.natCast_add] at *) <;> omega))) | (with_reducible refine Step.mk ?_ ?_) | (with_reducible refine Way.t1 ?_) | (with_reducible refine Way.f1 ?_) | ((with_reducible refine Way.dec (fun _ => ?_) (fun _ => ?_)) <;> try (exfalso; omega)) | (with_reducible refine Way.nt ?_) | (with_reducible refine Way.mk (fun _ => ?_) (fun _ => ?_)) | (with_reducible refine Drawn.mk (by kernel_rfl) ?_) | (refine Run.mk ?_)))
    · exact ⟨hs1.out, hs2.out⟩
    · (refine Back.by (q + 1) ?_ ?_ ?_; focus (refine Wk.keep ?_ ?_ <;> repeat' (first | exact True.intro | refine And.intro rfl ?_ | refine And.intro (congrArg (fun z : Int => AV.v false [Lf.d (.int .i64) z]) (by first | omega | (simp only [Int.natCast_add, List.length_cons, List.length_append, List.length_nil]; omega))) ?_ | refine And.intro ?_ ?_)))
      · rw [← hj.out]; exact rfl
      · exact hlt
      · show ns.length - (q + 1) < ns.length - q; omega
  · have e : ns.take q = ns := List.take_of_length_le (by omega)
    rw [e]
    (repeat' (first | (with_reducible refine Cend.go ?_) | (with_reducible refine Step.mk True.intro ?_) | (with_reducible refine Step.mk ?_ ?_; focus (((try simp only [true_and, and_true, and_self, kmin, kmax, decide_eq_true_eq, decide_eq_false_iff_not, castD_self, castL_self, List.length_cons, List.length_nil, List.length_append, Int.natCast_add] at *) <;> omega))) | (with_reducible refine Step.mk ?_ ?_) | (with_reducible refine Way.t1 ?_) | (with_reducible refine Way.f1 ?_) | ((with_reducible refine Way.dec (fun _ => ?_) (fun _ => ?_)) <;> try (exfalso; omega)) | (with_reducible refine Way.nt ?_) | (with_reducible refine Way.mk (fun _ => ?_) (fun _ => ?_)) | (with_reducible refine Drawn.mk (by kernel_rfl) ?_) | (refine Run.mk ?_)))
    exact Ret.mk ⟨rfl, .same, True.intro⟩

noncomputable def sp_mlS : SpecF := pureSp false [.slice tCm, .st (.slice tNd)] (fun (l', ns', _) => EvPre l' ns') (fun (l', ns', _) => .tu [(false, [.d (.slice (.int .i64)) (selI (evR l' ns'))]), (false, [.d .bool true])])
theorem mlS_sp : SpFact 19 sp_mlS := by
  refine ⟨⟨Try.f19, rfl, rfl, rfl, pureSp_okF (env_fine (sp := [(33, sp_Eval)]) (eq := []) ⟨Eval_sp, True.intro⟩ True.intro) rfl (fun _ _ => rfl) ?_⟩, pureSp_loc _ _ _ _⟩
  rintro ⟨l, ns, u⟩ - hp
  change List Cm at l
  change List Nd at ns
  have hp : EvPre l ns := hp
  have hs := evR_len hp
  have hl := hC_len hp.hc
  replace hp := Lib.hid hp
  dsimp only
  (refine fnM_of rfl rfl rfl rfl ?_; dsimp only [params, argAV, Ty.leaves, Ty.isSt])
  (repeat' (first | (with_reducible refine Cend.go ?_) | (with_reducible refine Step.mk True.intro ?_) | (with_reducible refine Step.mk ?_ ?_; focus (((try simp only [true_and, and_true, and_self, kmin, kmax, decide_eq_true_eq, decide_eq_false_iff_not, castD_self, castL_self, List.length_cons, List.length_nil, List.length_append, Int.natCast_add] at *) <;> omega))) | (with_reducible refine Step.mk ?_ ?_) | (with_reducible refine Way.t1 ?_) | (with_reducible refine Way.f1 ?_) | ((with_reducible refine Way.dec (fun _ => ?_) (fun _ => ?_)) <;> try (exfalso; omega)) | (with_reducible refine Way.nt ?_) | (with_reducible refine Way.mk (fun _ => ?_) (fun _ => ?_)) | (with_reducible refine Drawn.mk (by kernel_rfl) ?_) | (refine Run.mk ?_)))
  refine loop_by (X := Nat) (fun x => [.put 0 (.v false [.d (.slice tCm) l]), .put 6 (.v false [.d (.slice .bool) (evR l ns)]), .put 7 (.v false [.p 7 0]), .put 8 (.v false [.o 91]), .put 9 (.v false [.d (.int .i64) (x : Int)])])
    (fun x => [.put 7 (.box 24 [.d (.int .i64) 0, .d (.int .i64) 0]), .put 91 (.row 3 (.int .i64) (selK (fun i => (evR l ns).getD i false) x))]) (fun x => x ≤ (evR l ns).length) (fun x => (evR l ns).length - x) 0 (Nat.zero_le _) ?_ ?_
  · refine Wk.trans (Wk.nilrow 8 91 3 (.int .i64) rfl) ?_
    (refine Wk.keep ?_ ?_ <;> repeat' (first | exact True.intro | refine And.intro rfl ?_ | refine And.intro (congrArg (fun z : Int => AV.v false [Lf.d (.int .i64) z]) (by first | omega | (simp only [Int.natCast_add, List.length_cons, List.length_append, List.length_nil]; omega))) ?_ | refine And.intro ?_ ?_))
  intro k hk
  by_cases hlt : k < (evR l ns).length
  · have hlen := selK_len (fun i => (evR l ns).getD i false) k
    have hst : selK (fun i => (evR l ns).getD i false) (k + 1) = if (evR l ns).getD k false then selK (fun i => (evR l ns).getD i false) k ++ [(k : Int)] else selK (fun i => (evR l ns).getD i false) k := rfl
    obtain ⟨r, hr⟩ : ∃ r, selK (fun i => (evR l ns).getD i false) k = r := ⟨_, rfl⟩
    rw [hr] at hlen hst ⊢
    clear hr
    replace hst := Lib.hid hst
    (repeat' (first | (with_reducible refine Cend.go ?_) | (with_reducible refine Step.mk True.intro ?_) | (with_reducible refine Step.mk ?_ ?_; focus (((try simp only [true_and, and_true, and_self, kmin, kmax, decide_eq_true_eq, decide_eq_false_iff_not, castD_self, castL_self, List.length_cons, List.length_nil, List.length_append, Int.natCast_add] at *) <;> omega))) | (with_reducible refine Step.mk ?_ ?_) | (with_reducible refine Way.t1 ?_) | (with_reducible refine Way.f1 ?_) | ((with_reducible refine Way.dec (fun _ => ?_) (fun _ => ?_)) <;> try (exfalso; omega)) | (with_reducible refine Way.nt ?_) | (with_reducible refine Way.mk (fun _ => ?_) (fun _ => ?_)) | (with_reducible refine Drawn.mk (by kernel_rfl) ?_) | (refine Run.mk ?_)))
    · rename_i hx
      have hx : (evR l ns).getD k false = true := hx
      (refine Back.by (k + 1) ?_ ?_ ?_; focus (refine Wk.ren [(91, 29)] rfl ?_ ?_ <;> repeat' (first | exact True.intro | refine And.intro rfl ?_ | refine And.intro (congrArg (fun z : Int => AV.v false [Lf.d (.int .i64) z]) (by first | omega | (simp only [Int.natCast_add, List.length_cons, List.length_append, List.length_nil]; omega))) ?_ | refine And.intro ?_ ?_)))
      · rw [hst.out, if_pos hx]; exact rfl
      · exact hlt
      · show (evR l ns).length - (k + 1) < (evR l ns).length - k; omega
    · rename_i hx
      have hx : (evR l ns).getD k false = false := hx
      (refine Back.by (k + 1) ?_ ?_ ?_; focus (refine Wk.keep ?_ ?_ <;> repeat' (first | exact True.intro | refine And.intro rfl ?_ | refine And.intro (congrArg (fun z : Int => AV.v false [Lf.d (.int .i64) z]) (by first | omega | (simp only [Int.natCast_add, List.length_cons, List.length_append, List.length_nil]; omega))) ?_ | refine And.intro ?_ ?_)))
      · rw [hst.out, if_neg (by rw [hx]; decide)]; exact rfl
      · exact hlt
      · show (evR l ns).length - (k + 1) < (evR l ns).length - k; omega
  · have e : k = (evR l ns).length := by omega
    subst e
    (repeat' (first | (with_reducible refine Cend.go ?_) | (with_reducible refine Step.mk True.intro ?_) | (with_reducible refine Step.mk ?_ ?_; focus (((try simp only [true_and, and_true, and_self, kmin, kmax, decide_eq_true_eq, decide_eq_false_iff_not, castD_self, castL_self, List.length_cons, List.length_nil, List.length_append, Int.natCast_add] at *) <;> omega))) | (with_reducible refine Step.mk ?_ ?_) | (with_reducible refine Way.t1 ?_) | (with_reducible refine Way.f1 ?_) | ((with_reducible refine Way.dec (fun _ => ?_) (fun _ => ?_)) <;> try (exfalso; omega)) | (with_reducible refine Way.nt ?_) | (with_reducible refine Way.mk (fun _ => ?_) (fun _ => ?_)) | (with_reducible refine Drawn.mk (by kernel_rfl) ?_) | (refine Run.mk ?_)))
    have e2 : decide ((((evR l ns).length : Nat) : Int) = (l.length : Int)) = true := decide_eq_true (by omega)
    exact Ret.mk ⟨⟨rfl, .frz rfl, True.intro⟩, ⟨rfl, .inl (congrArg (fun b => Lf.d .bool b) e2), True.intro⟩, True.intro⟩
end Go.Proofs.Ytgdlbpihkodeoaa
