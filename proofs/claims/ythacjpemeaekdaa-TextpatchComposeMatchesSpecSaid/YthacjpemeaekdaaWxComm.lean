/- The walks of commute: ranges, meet, shift. -/
import Derived.Test.YthacjpemeaekdaaWxRepl
import Derived.Test.YthacjpemeaekdaaCommPure
namespace Go.Proofs.Ythacjpemeaekdaa
open Go.RowKit
set_option maxRecDepth 10000
set_option linter.unusedSimpArgs false

@[reducible] def tRg : Ty := .st (.pair (.int .i64) (.pair (.int .i64) (.int .i64)))
def sp_End : SpecF := pureSp true [tHk] (fun (h', _) => HkOk h') (fun (h', _) => .v false [.d (.int .i64) (hkEnd h')])
theorem End_sp : SpFact 55 sp_End := by
  refine ⟨⟨Try.f55, rfl, rfl, rfl, pureSp_ok (env_fine (sp := []) (eq := []) True.intro True.intro) rfl (fun ⟨_, _⟩ _ => rfl) ?_⟩, pureSp_loc _ _ _ _⟩
  rintro ⟨⟨a, o, n⟩, u⟩ - ⟨h1, h2, h3, h4⟩
  change Int at a
  change List ByteArray at o n
  replace h1 : 0 ≤ a := h1
  replace h2 : a ≤ 120 := h2
  replace h3 : o.length ≤ 120 := h3
  (refine fnM_of rfl rfl rfl rfl ?_; dsimp only [params, argAV, Ty.leaves, Ty.isSt])
  (repeat' (first | (with_reducible refine Cend.go ?_) | (with_reducible refine Step.mk True.intro ?_) | (with_reducible refine Step.mk ?_ ?_; focus (((try simp only [true_and, and_true, and_self, kmin, kmax, decide_eq_true_eq, decide_eq_false_iff_not, castD_self, castL_self, List.length_cons, List.length_nil, List.length_append, Int.natCast_add] at *) <;> omega))) | (with_reducible refine Step.mk ?_ ?_) | (with_reducible refine Way.t1 ?_) | (with_reducible refine Way.f1 ?_) | ((with_reducible refine Way.dec (fun _ => ?_) (fun _ => ?_)) <;> try (exfalso; omega)) | (with_reducible refine Way.nt ?_) | (with_reducible refine Way.mk (fun _ => ?_) (fun _ => ?_)) | (with_reducible refine Drawn.mk (by kernel_rfl) ?_) | (refine Run.mk ?_)))
  exact Ret.mk rfl
def sp_Growth : SpecF := pureSp true [tHk] (fun (h', _) => HkOk h') (fun (h', _) => .v false [.d (.int .i64) (hkGrow h')])
theorem Growth_sp : SpFact 58 sp_Growth := by
  refine ⟨⟨Try.f58, rfl, rfl, rfl, pureSp_ok (env_fine (sp := []) (eq := []) True.intro True.intro) rfl (fun ⟨_, _⟩ _ => rfl) ?_⟩, pureSp_loc _ _ _ _⟩
  rintro ⟨⟨a, o, n⟩, u⟩ - ⟨h1, h2, h3, h4⟩
  change Int at a
  change List ByteArray at o n
  replace h3 : o.length ≤ 120 := h3
  replace h4 : n.length ≤ 120 := h4
  (refine fnM_of rfl rfl rfl rfl ?_; dsimp only [params, argAV, Ty.leaves, Ty.isSt])
  (repeat' (first | (with_reducible refine Cend.go ?_) | (with_reducible refine Step.mk True.intro ?_) | (with_reducible refine Step.mk ?_ ?_; focus (((try simp only [true_and, and_true, and_self, kmin, kmax, decide_eq_true_eq, decide_eq_false_iff_not, castD_self, castL_self, List.length_cons, List.length_nil, List.length_append, Int.natCast_add] at *) <;> omega))) | (with_reducible refine Step.mk ?_ ?_) | (with_reducible refine Way.t1 ?_) | (with_reducible refine Way.f1 ?_) | ((with_reducible refine Way.dec (fun _ => ?_) (fun _ => ?_)) <;> try (exfalso; omega)) | (with_reducible refine Way.nt ?_) | (with_reducible refine Way.mk (fun _ => ?_) (fun _ => ?_)) | (with_reducible refine Drawn.mk (by kernel_rfl) ?_) | (refine Run.mk ?_)))
  exact Ret.mk rfl

theorem oldR_take {p : List Hk} {k : Nat} (h : k < p.length) : oldR (p.take (k + 1)) = oldR (p.take k) ++ [rgOld p[k]] := by
  unfold oldR
  rw [List.take_add_one, List.getElem?_eq_getElem h, Option.toList_some, List.map_append]; rfl
def sp_OldR : SpecF := pureSp false [tPat] (fun (p', _) => (∀ h ∈ p', HkOk h) ∧ p'.length ≤ 130) (fun (p', _) => .v false [.d (.slice tRg) (oldR p')])
theorem OldR_sp : SpFact 62 sp_OldR := by
  refine ⟨⟨Try.f62, rfl, rfl, rfl, pureSp_okF (env_fine (sp := [(55, sp_End), (58, sp_Growth)]) (eq := []) ⟨End_sp, Growth_sp, True.intro⟩ True.intro) rfl (fun ⟨_, _⟩ _ => rfl) ?_⟩, pureSp_loc _ _ _ _⟩
  rintro ⟨p, u⟩ - ⟨hok, hlen⟩
  change List Hk at p
  replace hlen : p.length ≤ 130 := hlen
  replace hok : ∀ h ∈ p, HkOk h := hok
  replace hok := Lib.hid hok
  (refine fnM_of rfl rfl rfl rfl ?_; dsimp only [params, argAV, Ty.leaves, Ty.isSt])
  (repeat' (first | (with_reducible refine Cend.go ?_) | (with_reducible refine Step.mk True.intro ?_) | (with_reducible refine Step.mk ?_ ?_; focus (((try simp only [true_and, and_true, and_self, kmin, kmax, decide_eq_true_eq, decide_eq_false_iff_not, castD_self, castL_self, List.length_cons, List.length_nil, List.length_append, Int.natCast_add] at *) <;> omega))) | (with_reducible refine Step.mk ?_ ?_) | (with_reducible refine Way.t1 ?_) | (with_reducible refine Way.f1 ?_) | ((with_reducible refine Way.dec (fun _ => ?_) (fun _ => ?_)) <;> try (exfalso; omega)) | (with_reducible refine Way.nt ?_) | (with_reducible refine Way.mk (fun _ => ?_) (fun _ => ?_)) | (with_reducible refine Drawn.mk (by kernel_rfl) ?_) | (refine Run.mk ?_)))
  refine loop_by (X := Nat × List Rg) (fun x => [.put 3 (.v false [.o 91]), .put 7 (.v false [.d (.slice tHk) p]), .put 8 (.v false [.d (.int .i64) (p.length : Int)]), .put 9 (.v false [.d (.int .i64) (x.1 : Int)])])
    (fun x => [.put 91 (.row 113 tRg x.2)]) (fun x => x.1 ≤ p.length ∧ x.2 = oldR (p.take x.1)) (fun x => p.length - x.1) (0, []) ⟨Nat.zero_le _, rfl⟩ ?_ ?_
  · refine (Wk.nilrow 3 91 113 tRg rfl).trans ?_
    (refine Wk.keep ?_ ?_ <;> repeat' (first | exact True.intro | refine And.intro rfl ?_ | refine And.intro (congrArg (fun z : Int => AV.v false [Lf.d (.int .i64) z]) (by first | omega | (simp only [Int.natCast_add, List.length_cons, List.length_append, List.length_nil]; omega))) ?_ | refine And.intro ?_ ?_))
  rintro ⟨k, L⟩ ⟨hk, hL⟩
  dsimp only at hk hL ⊢
  have hLl : L.length = k := by rw [hL]; unfold oldR; rw [List.length_map, List.length_take]; omega
  by_cases hlt : k < p.length
  · have hg := getD_at (a := p) tHk.dflt hlt
    have ho := hok.out p[k] (List.getElem_mem hlt)
    have hs := oldR_take hlt
    rw [← hg] at ho hs
    rw [← hL] at hs
    replace hg := Lib.hid hg
    replace hs := Lib.hid hs
    replace ho := Lib.hid ho
    replace hL := Lib.hid hL
    (repeat' (first | (with_reducible refine Cend.go ?_) | (with_reducible refine Step.mk True.intro ?_) | (with_reducible refine Step.mk ?_ ?_; focus (((try simp only [true_and, and_true, and_self, kmin, kmax, decide_eq_true_eq, decide_eq_false_iff_not, castD_self, castL_self, List.length_cons, List.length_nil, List.length_append, Int.natCast_add] at *) <;> omega))) | (with_reducible refine Step.mk ?_ ?_) | (with_reducible refine Way.t1 ?_) | (with_reducible refine Way.f1 ?_) | ((with_reducible refine Way.dec (fun _ => ?_) (fun _ => ?_)) <;> try (exfalso; omega)) | (with_reducible refine Way.nt ?_) | (with_reducible refine Way.mk (fun _ => ?_) (fun _ => ?_)) | (with_reducible refine Drawn.mk (by kernel_rfl) ?_) | (refine Run.mk ?_)))
    · exact ho.out
    · exact ho.out
    (apply Back.by ((k + 1, _)); focus (refine Wk.ren [(91, 22)] rfl ?_ ?_ <;> repeat' (first | exact True.intro | refine And.intro rfl ?_ | refine And.intro (congrArg (fun z : Int => AV.v false [Lf.d (.int .i64) z]) (by first | omega | (simp only [Int.natCast_add, List.length_cons, List.length_append, List.length_nil]; omega))) ?_ | refine And.intro ?_ ?_)))
    · exact ⟨hlt, hs.out.symm⟩
    · show p.length - (k + 1) < p.length - k; omega
  · rw [List.take_of_length_le (by omega)] at hL
    subst hL
    (repeat' (first | (with_reducible refine Cend.go ?_) | (with_reducible refine Step.mk True.intro ?_) | (with_reducible refine Step.mk ?_ ?_; focus (((try simp only [true_and, and_true, and_self, kmin, kmax, decide_eq_true_eq, decide_eq_false_iff_not, castD_self, castL_self, List.length_cons, List.length_nil, List.length_append, Int.natCast_add] at *) <;> omega))) | (with_reducible refine Step.mk ?_ ?_) | (with_reducible refine Way.t1 ?_) | (with_reducible refine Way.f1 ?_) | ((with_reducible refine Way.dec (fun _ => ?_) (fun _ => ?_)) <;> try (exfalso; omega)) | (with_reducible refine Way.nt ?_) | (with_reducible refine Way.mk (fun _ => ?_) (fun _ => ?_)) | (with_reducible refine Drawn.mk (by kernel_rfl) ?_) | (refine Run.mk ?_)))
    refine Ret.mk ?_
    exact ⟨rfl, .frz rfl, True.intro⟩
theorem newR_take {p : List Hk} {k : Nat} (g : Int) (h : k < p.length) : newR g (p.take (k + 1)) = newR g (p.take k) ++ [rgNew (g + pGrow (p.take k)) p[k]] := by
  induction p generalizing g k with
  | nil => simp at h
  | cons x p ih =>
    cases k with
    | zero => simp [newR, pGrow]
    | succ k =>
      have h' : k < p.length := by simpa using h
      show rgNew g x :: newR (g + hkGrow x) (p.take (k + 1)) = rgNew g x :: (newR (g + hkGrow x) (p.take k) ++ [rgNew (g + (hkGrow x + pGrow (p.take k))) p[k]])
      rw [ih _ h', Int.add_assoc]
theorem newR_length : ∀ (p : List Hk) (g : Int), (newR g p).length = p.length
  | [], _ => rfl
  | h :: p, g => by simp [newR, newR_length p]
def sp_newR : SpecF := pureSp false [tPat] (fun (p', _) => (∀ h ∈ p', HkOk h) ∧ p'.length ≤ 130) (fun (p', _) => .v false [.d (.slice tRg) (newR 0 p')])
theorem newR_sp : SpFact 60 sp_newR := by
  refine ⟨⟨Try.f60, rfl, rfl, rfl, pureSp_okF (env_fine (sp := [(58, sp_Growth)]) (eq := []) ⟨Growth_sp, True.intro⟩ True.intro) rfl (fun ⟨_, _⟩ _ => rfl) ?_⟩, pureSp_loc _ _ _ _⟩
  rintro ⟨p, u⟩ - ⟨hok, hlen⟩
  change List Hk at p
  replace hlen : p.length ≤ 130 := hlen
  replace hok : ∀ h ∈ p, HkOk h := hok
  have hbd := pGrow_bd
  replace hbd := Lib.hid hbd
  replace hok := Lib.hid hok
  (refine fnM_of rfl rfl rfl rfl ?_; dsimp only [params, argAV, Ty.leaves, Ty.isSt])
  (repeat' (first | (with_reducible refine Cend.go ?_) | (with_reducible refine Step.mk True.intro ?_) | (with_reducible refine Step.mk ?_ ?_; focus (((try simp only [true_and, and_true, and_self, kmin, kmax, decide_eq_true_eq, decide_eq_false_iff_not, castD_self, castL_self, List.length_cons, List.length_nil, List.length_append, Int.natCast_add] at *) <;> omega))) | (with_reducible refine Step.mk ?_ ?_) | (with_reducible refine Way.t1 ?_) | (with_reducible refine Way.f1 ?_) | ((with_reducible refine Way.dec (fun _ => ?_) (fun _ => ?_)) <;> try (exfalso; omega)) | (with_reducible refine Way.nt ?_) | (with_reducible refine Way.mk (fun _ => ?_) (fun _ => ?_)) | (with_reducible refine Drawn.mk (by kernel_rfl) ?_) | (refine Run.mk ?_)))
  refine loop_by (X := Nat × Int × List Rg) (fun x => [.put 3 (.v false [.o 91]), .put 4 (.v false [.d (.int .i64) x.2.1]), .put 9 (.v false [.d (.slice tHk) p]), .put 10 (.v false [.d (.int .i64) (p.length : Int)]), .put 11 (.v false [.d (.int .i64) (x.1 : Int)])])
    (fun x => [.put 91 (.row 113 tRg x.2.2)]) (fun x => x.1 ≤ p.length ∧ x.2.1 = pGrow (p.take x.1) ∧ x.2.2 = newR 0 (p.take x.1)) (fun x => p.length - x.1) (0, 0, []) ⟨Nat.zero_le _, rfl, rfl⟩ ?_ ?_
  · refine (Wk.nilrow 3 91 113 tRg rfl).trans ?_
    (refine Wk.keep ?_ ?_ <;> repeat' (first | exact True.intro | refine And.intro rfl ?_ | refine And.intro (congrArg (fun z : Int => AV.v false [Lf.d (.int .i64) z]) (by first | omega | (simp only [Int.natCast_add, List.length_cons, List.length_append, List.length_nil]; omega))) ?_ | refine And.intro ?_ ?_))
  rintro ⟨k, g, L⟩ ⟨hk, hgr, hL⟩
  dsimp only at hk hgr hL ⊢
  have hLl : L.length = k := by rw [hL, newR_length, List.length_take]; omega
  by_cases hlt : k < p.length
  · have hg := getD_at (a := p) tHk.dflt hlt
    have ho := hok.out p[k] (List.getElem_mem hlt)
    have hs := newR_take 0 hlt
    have hgr' : g + hkGrow p[k] = pGrow (p.take (k + 1)) := by
      rw [List.take_add_one, List.getElem?_eq_getElem hlt, Option.toList_some, pGrow_append, hgr]; simp [pGrow]
    have bd := hbd.out (p.take k) fun x hx => hok.out x (List.mem_of_mem_take hx)
    rw [← hgr, List.length_take, Nat.min_eq_left hk] at bd
    rw [Int.zero_add, ← hgr] at hs
    rw [← hg] at ho hs hgr'
    rw [← hL] at hs
    have ho' := ho
    obtain ⟨o1, o2, o3, o4⟩ := ho'
    have gb : -120 ≤ hkGrow (p.getD ((k : Int)).toNat tHk.dflt) ∧ hkGrow (p.getD ((k : Int)).toNat tHk.dflt) ≤ 120 := by unfold hkGrow; omega
    replace hg := Lib.hid hg
    replace hs := Lib.hid hs
    replace ho := Lib.hid ho
    replace hL := Lib.hid hL
    replace hgr := Lib.hid hgr
    replace hgr' := Lib.hid hgr'
    (repeat' (first | (with_reducible refine Cend.go ?_) | (with_reducible refine Step.mk True.intro ?_) | (with_reducible refine Step.mk ?_ ?_; focus (((try simp only [true_and, and_true, and_self, kmin, kmax, decide_eq_true_eq, decide_eq_false_iff_not, castD_self, castL_self, List.length_cons, List.length_nil, List.length_append, Int.natCast_add] at *) <;> omega))) | (with_reducible refine Step.mk ?_ ?_) | (with_reducible refine Way.t1 ?_) | (with_reducible refine Way.f1 ?_) | ((with_reducible refine Way.dec (fun _ => ?_) (fun _ => ?_)) <;> try (exfalso; omega)) | (with_reducible refine Way.nt ?_) | (with_reducible refine Way.mk (fun _ => ?_) (fun _ => ?_)) | (with_reducible refine Drawn.mk (by kernel_rfl) ?_) | (refine Run.mk ?_)))
    all_goals first | exact ho.out | skip
    · show (-9223372036854775808 : Int) ≤ g + hkGrow (p.getD ((k : Int)).toNat tHk.dflt) ∧ g + hkGrow (p.getD ((k : Int)).toNat tHk.dflt) ≤ 9223372036854775807
      omega
    (apply Back.by ((k + 1, _, _)); focus (refine Wk.ren [(91, 30)] rfl ?_ ?_ <;> repeat' (first | exact True.intro | refine And.intro rfl ?_ | refine And.intro (congrArg (fun z : Int => AV.v false [Lf.d (.int .i64) z]) (by first | omega | (simp only [Int.natCast_add, List.length_cons, List.length_append, List.length_nil]; omega))) ?_ | refine And.intro ?_ ?_)))
    · exact ⟨hlt, hgr'.out, hs.out.symm⟩
    · show p.length - (k + 1) < p.length - k; omega
  · rw [List.take_of_length_le (by omega)] at hL
    subst hL
    (repeat' (first | (with_reducible refine Cend.go ?_) | (with_reducible refine Step.mk True.intro ?_) | (with_reducible refine Step.mk ?_ ?_; focus (((try simp only [true_and, and_true, and_self, kmin, kmax, decide_eq_true_eq, decide_eq_false_iff_not, castD_self, castL_self, List.length_cons, List.length_nil, List.length_append, Int.natCast_add] at *) <;> omega))) | (with_reducible refine Step.mk ?_ ?_) | (with_reducible refine Way.t1 ?_) | (with_reducible refine Way.f1 ?_) | ((with_reducible refine Way.dec (fun _ => ?_) (fun _ => ?_)) <;> try (exfalso; omega)) | (with_reducible refine Way.nt ?_) | (with_reducible refine Way.mk (fun _ => ?_) (fun _ => ?_)) | (with_reducible refine Drawn.mk (by kernel_rfl) ?_) | (refine Run.mk ?_)))
    refine Ret.mk ?_
    exact ⟨rfl, .frz rfl, True.intro⟩
def sp_touch : SpecF := pureSp true [tRg, tRg] (fun _ => True) (fun (a', b', _) => .v false [.d .bool (touch a' b')])
theorem touch_sp : SpFact 80 sp_touch := by
  refine ⟨⟨Try.f80, rfl, rfl, rfl, pureSp_ok (env_fine (sp := []) (eq := []) True.intro True.intro) rfl (fun ⟨_, _, _⟩ _ => rfl) ?_⟩, pureSp_loc _ _ _ _⟩
  rintro ⟨⟨a1, a2, a3⟩, ⟨b1, b2, b3⟩, u⟩ - -
  change Int at a1 a2 a3 b1 b2 b3
  (refine fnM_of rfl rfl rfl rfl ?_; dsimp only [params, argAV, Ty.leaves, Ty.isSt])
  (repeat' (first | (with_reducible refine Cend.go ?_) | (with_reducible refine Step.mk True.intro ?_) | (with_reducible refine Step.mk ?_ ?_; focus (((try simp only [true_and, and_true, and_self, kmin, kmax, decide_eq_true_eq, decide_eq_false_iff_not, castD_self, castL_self, List.length_cons, List.length_nil, List.length_append, Int.natCast_add] at *) <;> omega))) | (with_reducible refine Step.mk ?_ ?_) | (with_reducible refine Way.t1 ?_) | (with_reducible refine Way.f1 ?_) | ((with_reducible refine Way.dec (fun _ => ?_) (fun _ => ?_)) <;> try (exfalso; omega)) | (with_reducible refine Way.nt ?_) | (with_reducible refine Way.mk (fun _ => ?_) (fun _ => ?_)) | (with_reducible refine Drawn.mk (by kernel_rfl) ?_) | (refine Run.mk ?_)))
  · rename_i h
    refine Ret.mk (congrArg (fun b => AV.v false [.d .bool b]) ?_)
    show decide (a1 ≤ b2) = touch (a1, a2, a3) (b1, b2, b3)
    unfold touch
    dsimp only
    rw [decide_eq_true h, Bool.true_and]
  · rename_i h
    refine Ret.mk (congrArg (fun b => AV.v false [.d .bool b]) ?_)
    unfold touch
    dsimp only
    rw [decide_eq_false h, Bool.false_and]

theorem meet_nil (b : List Rg) : meet [] b = false := rfl
theorem any_drop {α : Type} {f : α → Bool} {l : List α} {k : Nat} (h : k < l.length) : (l.drop k).any f = (f l[k] || (l.drop (k + 1)).any f) := by
  rw [List.drop_eq_getElem_cons h]; rfl
def sp_meet : SpecF := pureSp false [.slice tRg, .slice tRg] (fun _ => True) (fun (a', b', _) => .v false [.d .bool (meet a' b')])
theorem meet_sp : SpFact 61 sp_meet := by
  refine ⟨⟨Try.f61, rfl, rfl, rfl, pureSp_ok (env_fine (sp := [(80, sp_touch)]) (eq := []) ⟨touch_sp, True.intro⟩ True.intro) rfl (fun ⟨_, _, _⟩ _ => rfl) ?_⟩, pureSp_loc _ _ _ _⟩
  rintro ⟨a, b, u⟩ ⟨⟨ha, -⟩, ⟨hb, -⟩, -⟩ -
  rw [maxLen_eq] at ha hb
  dsimp only at ha hb
  change List Rg at a b
  (refine fnM_of rfl rfl rfl rfl ?_; dsimp only [params, argAV, Ty.leaves, Ty.isSt])
  (repeat' (first | (with_reducible refine Cend.go ?_) | (with_reducible refine Step.mk True.intro ?_) | (with_reducible refine Step.mk ?_ ?_; focus (((try simp only [true_and, and_true, and_self, kmin, kmax, decide_eq_true_eq, decide_eq_false_iff_not, castD_self, castL_self, List.length_cons, List.length_nil, List.length_append, Int.natCast_add] at *) <;> omega))) | (with_reducible refine Step.mk ?_ ?_) | (with_reducible refine Way.t1 ?_) | (with_reducible refine Way.f1 ?_) | ((with_reducible refine Way.dec (fun _ => ?_) (fun _ => ?_)) <;> try (exfalso; omega)) | (with_reducible refine Way.nt ?_) | (with_reducible refine Way.mk (fun _ => ?_) (fun _ => ?_)) | (with_reducible refine Drawn.mk (by kernel_rfl) ?_) | (refine Run.mk ?_)))
  refine loop_by (X := Nat) (fun x => [.put 1 (.v false [.d (.slice tRg) b]), .put 9 (.v false [.d (.slice tRg) a]), .put 10 (.v false [.d (.int .i64) (a.length : Int)]), .put 11 (.v false [.d (.int .i64) (x : Int)])])
    (fun _ => []) (fun x => x ≤ a.length ∧ meet a b = meet (a.drop x) b) (fun x => a.length - x) 0 ⟨Nat.zero_le _, rfl⟩ ?_ ?_
  · (refine Wk.keep ?_ ?_ <;> repeat' (first | exact True.intro | refine And.intro rfl ?_ | refine And.intro (congrArg (fun z : Int => AV.v false [Lf.d (.int .i64) z]) (by first | omega | (simp only [Int.natCast_add, List.length_cons, List.length_append, List.length_nil]; omega))) ?_ | refine And.intro ?_ ?_))
  rintro k ⟨hk, hm⟩
  dsimp only at hk hm ⊢
  by_cases hlt : k < a.length
  · have hg := getD_at (a := a) tRg.dflt hlt
    have hm2 : meet (a.drop k) b = (b.any (touch a[k]) || meet (a.drop (k + 1)) b) := by unfold meet; rw [any_drop hlt]
    rw [hm2, ← hg] at hm
    replace hg := Lib.hid hg
    replace hm := Lib.hid hm
    clear hm2
    (repeat' (first | (with_reducible refine Cend.go ?_) | (with_reducible refine Step.mk True.intro ?_) | (with_reducible refine Step.mk ?_ ?_; focus (((try simp only [true_and, and_true, and_self, kmin, kmax, decide_eq_true_eq, decide_eq_false_iff_not, castD_self, castL_self, List.length_cons, List.length_nil, List.length_append, Int.natCast_add] at *) <;> omega))) | (with_reducible refine Step.mk ?_ ?_) | (with_reducible refine Way.t1 ?_) | (with_reducible refine Way.f1 ?_) | ((with_reducible refine Way.dec (fun _ => ?_) (fun _ => ?_)) <;> try (exfalso; omega)) | (with_reducible refine Way.nt ?_) | (with_reducible refine Way.mk (fun _ => ?_) (fun _ => ?_)) | (with_reducible refine Drawn.mk (by kernel_rfl) ?_) | (refine Run.mk ?_)))
    refine loop_by (X := Nat) (fun x => [.put 1 (.v false [.d (.slice tRg) b]), .put 9 (.v false [.d (.slice tRg) a]), .put 10 (.v false [.d (.int .i64) (a.length : Int)]), .put 11 (.v false [.d (.int .i64) (k : Int)]), .put 15 (.v false [.d (.slice tRg) b]), .put 16 (.v false [.d (.int .i64) (b.length : Int)]), .put 17 (.v false [.d (.int .i64) (x : Int)]), .put 6 (.v false [.p 6 0])])
      (fun _ => [.put 6 (.box 113 (tRg.leaves (a.getD ((k : Int)).toNat tRg.dflt)))]) (fun x => x ≤ b.length ∧ b.any (touch (a.getD ((k : Int)).toNat tRg.dflt)) = (b.drop x).any (touch (a.getD ((k : Int)).toNat tRg.dflt))) (fun x => b.length - x) 0 ⟨Nat.zero_le _, rfl⟩ ?_ ?_
    · (refine Wk.keep ?_ ?_ <;> repeat' (first | exact True.intro | refine And.intro rfl ?_ | refine And.intro (congrArg (fun z : Int => AV.v false [Lf.d (.int .i64) z]) (by first | omega | (simp only [Int.natCast_add, List.length_cons, List.length_append, List.length_nil]; omega))) ?_ | refine And.intro ?_ ?_))
    rintro j ⟨hj, hn⟩
    (try dsimp only at hj hn); (try dsimp only)
    by_cases hjt : j < b.length
    · have hg2 := getD_at (a := b) tRg.dflt hjt
      rw [any_drop hjt, ← hg2] at hn
      replace hg2 := Lib.hid hg2
      replace hn := Lib.hid hn
      (repeat' (first | (with_reducible refine Cend.go ?_) | (with_reducible refine Step.mk True.intro ?_) | (with_reducible refine Step.mk ?_ ?_; focus (((try simp only [true_and, and_true, and_self, kmin, kmax, decide_eq_true_eq, decide_eq_false_iff_not, castD_self, castL_self, List.length_cons, List.length_nil, List.length_append, Int.natCast_add] at *) <;> omega))) | (with_reducible refine Step.mk ?_ ?_) | (with_reducible refine Way.t1 ?_) | (with_reducible refine Way.f1 ?_) | ((with_reducible refine Way.dec (fun _ => ?_) (fun _ => ?_)) <;> try (exfalso; omega)) | (with_reducible refine Way.nt ?_) | (with_reducible refine Way.mk (fun _ => ?_) (fun _ => ?_)) | (with_reducible refine Drawn.mk (by kernel_rfl) ?_) | (refine Run.mk ?_)))
      · rename_i h
        refine Ret.mk (congrArg (fun b => AV.v false [.d .bool b]) ?_)
        have h : touch (a.getD ((k : Int)).toNat tRg.dflt) (b.getD ((j : Int)).toNat tRg.dflt) = true := h
        rw [hm.out, hn.out, h]; rfl
      · rename_i h
        have h : touch (a.getD ((k : Int)).toNat tRg.dflt) (b.getD ((j : Int)).toNat tRg.dflt) = false := h
        (refine Back.by (j + 1) ?_ ?_ ?_; focus (refine Wk.keep ?_ ?_ <;> repeat' (first | exact True.intro | refine And.intro rfl ?_ | refine And.intro (congrArg (fun z : Int => AV.v false [Lf.d (.int .i64) z]) (by first | omega | (simp only [Int.natCast_add, List.length_cons, List.length_append, List.length_nil]; omega))) ?_ | refine And.intro ?_ ?_)))
        · exact ⟨hjt, by rw [hn.out, h]; rfl⟩
        · show b.length - (j + 1) < b.length - j; omega
    · rw [List.drop_eq_nil_of_le (by omega)] at hn
      have hn : b.any (touch (a.getD ((k : Int)).toNat tRg.dflt)) = false := hn
      replace hn := Lib.hid hn
      (repeat' (first | (with_reducible refine Cend.go ?_) | (with_reducible refine Step.mk True.intro ?_) | (with_reducible refine Step.mk ?_ ?_; focus (((try simp only [true_and, and_true, and_self, kmin, kmax, decide_eq_true_eq, decide_eq_false_iff_not, castD_self, castL_self, List.length_cons, List.length_nil, List.length_append, Int.natCast_add] at *) <;> omega))) | (with_reducible refine Step.mk ?_ ?_) | (with_reducible refine Way.t1 ?_) | (with_reducible refine Way.f1 ?_) | ((with_reducible refine Way.dec (fun _ => ?_) (fun _ => ?_)) <;> try (exfalso; omega)) | (with_reducible refine Way.nt ?_) | (with_reducible refine Way.mk (fun _ => ?_) (fun _ => ?_)) | (with_reducible refine Drawn.mk (by kernel_rfl) ?_) | (refine Run.mk ?_)))
      (refine Back.by (k + 1) ?_ ?_ ?_; focus (refine Wk.keep ?_ ?_ <;> repeat' (first | exact True.intro | refine And.intro rfl ?_ | refine And.intro (congrArg (fun z : Int => AV.v false [Lf.d (.int .i64) z]) (by first | omega | (simp only [Int.natCast_add, List.length_cons, List.length_append, List.length_nil]; omega))) ?_ | refine And.intro ?_ ?_)))
      · exact ⟨hlt, by rw [hm.out, hn.out]; rfl⟩
      · show a.length - (k + 1) < a.length - k; omega
  · rw [List.drop_eq_nil_of_le (by omega)] at hm
    (repeat' (first | (with_reducible refine Cend.go ?_) | (with_reducible refine Step.mk True.intro ?_) | (with_reducible refine Step.mk ?_ ?_; focus (((try simp only [true_and, and_true, and_self, kmin, kmax, decide_eq_true_eq, decide_eq_false_iff_not, castD_self, castL_self, List.length_cons, List.length_nil, List.length_append, Int.natCast_add] at *) <;> omega))) | (with_reducible refine Step.mk ?_ ?_) | (with_reducible refine Way.t1 ?_) | (with_reducible refine Way.f1 ?_) | ((with_reducible refine Way.dec (fun _ => ?_) (fun _ => ?_)) <;> try (exfalso; omega)) | (with_reducible refine Way.nt ?_) | (with_reducible refine Way.mk (fun _ => ?_) (fun _ => ?_)) | (with_reducible refine Drawn.mk (by kernel_rfl) ?_) | (refine Run.mk ?_)))
    refine Ret.mk (congrArg (fun b => AV.v false [.d .bool b]) ?_)
    rw [hm]; rfl

def sp_Made : SpecF := pureSp false [tPat] (fun _ => True) (fun (p', _) => .tu [(true, [.d (.slice tHk) (if pC p' = 0 then p' else [])]), (true, [.d (.int .i64) (if pC p' = 0 then 0 else 10), .d (.int .i64) (if pC p' = 0 then 0 else -1)])])
theorem Made_sp : SpFact 45 sp_Made := by
  refine ⟨⟨Try.f45, rfl, rfl, rfl, pureSp_okF (env_fine (sp := [(28, sp_PValidate)]) (eq := [(24, true)]) ⟨PValidate_sp, True.intro⟩ ⟨eq_fault, True.intro⟩) rfl (fun ⟨_, _⟩ _ => rfl) ?_⟩, pureSp_loc _ _ _ _⟩
  rintro ⟨p, u⟩ - -
  change List Hk at p
  by_cases hp : pC p = 0
  · have hv : (decide (pC p = 0) && decide (pI p = 0)) = true := by rw [hp, pI_good p hp]; rfl
    replace hv := Lib.hid hv
    replace hp := Lib.hid hp
    (refine fnM_of rfl rfl rfl rfl ?_; dsimp only [params, argAV, Ty.leaves, Ty.isSt])
    (repeat' (first | (with_reducible refine Cend.go ?_) | (with_reducible refine Step.mk True.intro ?_) | (with_reducible refine Step.mk ?_ ?_; focus (((try simp only [true_and, and_true, and_self, kmin, kmax, decide_eq_true_eq, decide_eq_false_iff_not, castD_self, castL_self, List.length_cons, List.length_nil, List.length_append, Int.natCast_add] at *) <;> omega))) | (with_reducible refine Step.mk ?_ ?_) | (with_reducible refine Way.t1 ?_) | (with_reducible refine Way.f1 ?_) | ((with_reducible refine Way.dec (fun _ => ?_) (fun _ => ?_)) <;> try (exfalso; omega)) | (with_reducible refine Way.nt ?_) | ((with_reducible refine Way.mk (fun _ => ?_) (fun _ => ?_)) <;> try (exfalso; rename_i hw; first | exact Bool.noConfusion ((Go.RowKit.Hid.out hv).symm.trans hw) | exact Bool.noConfusion (hw.symm.trans (Go.RowKit.Hid.out hv)))) | (with_reducible refine Drawn.mk (by kernel_rfl) ?_) | (refine Run.mk ?_)))
    refine Ret.mk ?_
    rw [if_pos hp.out, if_pos hp.out, if_pos hp.out]
    exact ⟨⟨rfl, .same, True.intro⟩, ⟨rfl, .same, .same, True.intro⟩, True.intro⟩
  · have hv : (decide (pC p = 0) && decide (pI p = 0)) = false := by rw [decide_eq_false hp]; rfl
    replace hv := Lib.hid hv
    (refine fnM_of rfl rfl rfl rfl ?_; dsimp only [params, argAV, Ty.leaves, Ty.isSt])
    (repeat' (first | (with_reducible refine Cend.go ?_) | (with_reducible refine Step.mk True.intro ?_) | (with_reducible refine Step.mk ?_ ?_; focus (((try simp only [true_and, and_true, and_self, kmin, kmax, decide_eq_true_eq, decide_eq_false_iff_not, castD_self, castL_self, List.length_cons, List.length_nil, List.length_append, Int.natCast_add] at *) <;> omega))) | (with_reducible refine Step.mk ?_ ?_) | (with_reducible refine Way.t1 ?_) | (with_reducible refine Way.f1 ?_) | ((with_reducible refine Way.dec (fun _ => ?_) (fun _ => ?_)) <;> try (exfalso; omega)) | (with_reducible refine Way.nt ?_) | ((with_reducible refine Way.mk (fun _ => ?_) (fun _ => ?_)) <;> try (exfalso; rename_i hw; first | exact Bool.noConfusion ((Go.RowKit.Hid.out hv).symm.trans hw) | exact Bool.noConfusion (hw.symm.trans (Go.RowKit.Hid.out hv)))) | (with_reducible refine Drawn.mk (by kernel_rfl) ?_) | (refine Run.mk ?_)))
    refine Ret.mk ?_
    rw [if_neg hp, if_neg hp, if_neg hp]
    exact ⟨⟨rfl, .frz rfl, True.intro⟩, ⟨rfl, .same, .same, True.intro⟩, True.intro⟩
def sp_PSecond : SpecF := pureSp true [tPat, .int .i64] (fun _ => True) (fun (p', i', _) => .v true [.d (.int .i64) (pC p'), .d (.int .i64) (if pC p' = 0 then 0 else i')])
theorem PSecond_sp : SpFact 43 sp_PSecond := by
  refine ⟨⟨Try.f43, rfl, rfl, rfl, pureSp_ok (env_fine (sp := [(28, sp_PValidate)]) (eq := [(24, true)]) ⟨PValidate_sp, True.intro⟩ ⟨eq_fault, True.intro⟩) rfl (fun ⟨_, _, _⟩ _ => rfl) ?_⟩, pureSp_loc _ _ _ _⟩
  rintro ⟨p, i, u⟩ - -
  change List Hk at p
  by_cases hp : pC p = 0
  · have hv : (decide (pC p = 0) && decide (pI p = 0)) = true := by rw [hp, pI_good p hp]; rfl
    replace hv := Lib.hid hv
    replace hp := Lib.hid hp
    (refine fnM_of rfl rfl rfl rfl ?_; dsimp only [params, argAV, Ty.leaves, Ty.isSt])
    (repeat' (first | (with_reducible refine Cend.go ?_) | (with_reducible refine Step.mk True.intro ?_) | (with_reducible refine Step.mk ?_ ?_; focus (((try simp only [true_and, and_true, and_self, kmin, kmax, decide_eq_true_eq, decide_eq_false_iff_not, castD_self, castL_self, List.length_cons, List.length_nil, List.length_append, Int.natCast_add] at *) <;> omega))) | (with_reducible refine Step.mk ?_ ?_) | (with_reducible refine Way.t1 ?_) | (with_reducible refine Way.f1 ?_) | ((with_reducible refine Way.dec (fun _ => ?_) (fun _ => ?_)) <;> try (exfalso; omega)) | (with_reducible refine Way.nt ?_) | ((with_reducible refine Way.mk (fun _ => ?_) (fun _ => ?_)) <;> try (exfalso; rename_i hw; first | exact Bool.noConfusion ((Go.RowKit.Hid.out hv).symm.trans hw) | exact Bool.noConfusion (hw.symm.trans (Go.RowKit.Hid.out hv)))) | (with_reducible refine Drawn.mk (by kernel_rfl) ?_) | (refine Run.mk ?_)))
    refine Ret.mk ?_
    rw [if_pos hp.out, hp.out]
    rfl
  · have hv : (decide (pC p = 0) && decide (pI p = 0)) = false := by rw [decide_eq_false hp]; rfl
    replace hv := Lib.hid hv
    (refine fnM_of rfl rfl rfl rfl ?_; dsimp only [params, argAV, Ty.leaves, Ty.isSt])
    (repeat' (first | (with_reducible refine Cend.go ?_) | (with_reducible refine Step.mk True.intro ?_) | (with_reducible refine Step.mk ?_ ?_; focus (((try simp only [true_and, and_true, and_self, kmin, kmax, decide_eq_true_eq, decide_eq_false_iff_not, castD_self, castL_self, List.length_cons, List.length_nil, List.length_append, Int.natCast_add] at *) <;> omega))) | (with_reducible refine Step.mk ?_ ?_) | (with_reducible refine Way.t1 ?_) | (with_reducible refine Way.f1 ?_) | ((with_reducible refine Way.dec (fun _ => ?_) (fun _ => ?_)) <;> try (exfalso; omega)) | (with_reducible refine Way.nt ?_) | ((with_reducible refine Way.mk (fun _ => ?_) (fun _ => ?_)) <;> try (exfalso; rename_i hw; first | exact Bool.noConfusion ((Go.RowKit.Hid.out hv).symm.trans hw) | exact Bool.noConfusion (hw.symm.trans (Go.RowKit.Hid.out hv)))) | (with_reducible refine Drawn.mk (by kernel_rfl) ?_) | (refine Run.mk ?_)))
    refine Ret.mk ?_
    rw [if_neg hp]
    rfl
def cbC (p q : List Hk) : Int := if pC p ≠ 0 then pC p else pC q
def cbI (p q : List Hk) : Int := if pC p ≠ 0 then pI p else if pC q = 0 then 0 else -2
def sp_cboth : SpecF := pureSp true [tPat, tPat] (fun _ => True) (fun (p', q', _) => .v true [.d (.int .i64) (cbC p' q'), .d (.int .i64) (cbI p' q')])
theorem cboth_sp : SpFact 59 sp_cboth := by
  refine ⟨⟨Try.f59, rfl, rfl, rfl, pureSp_ok (env_fine (sp := [(28, sp_PValidate), (43, sp_PSecond)]) (eq := [(24, true)]) ⟨PValidate_sp, PSecond_sp, True.intro⟩ ⟨eq_fault, True.intro⟩) rfl (fun ⟨_, _, _⟩ _ => rfl) ?_⟩, pureSp_loc _ _ _ _⟩
  rintro ⟨p, q, u⟩ - -
  change List Hk at p q
  by_cases hp : pC p = 0
  · have hv : (decide (pC p = 0) && decide (pI p = 0)) = true := by rw [hp, pI_good p hp]; rfl
    replace hv := Lib.hid hv
    replace hp := Lib.hid hp
    (refine fnM_of rfl rfl rfl rfl ?_; dsimp only [params, argAV, Ty.leaves, Ty.isSt])
    (repeat' (first | (with_reducible refine Cend.go ?_) | (with_reducible refine Step.mk True.intro ?_) | (with_reducible refine Step.mk ?_ ?_; focus (((try simp only [true_and, and_true, and_self, kmin, kmax, decide_eq_true_eq, decide_eq_false_iff_not, castD_self, castL_self, List.length_cons, List.length_nil, List.length_append, Int.natCast_add] at *) <;> omega))) | (with_reducible refine Step.mk ?_ ?_) | (with_reducible refine Way.t1 ?_) | (with_reducible refine Way.f1 ?_) | ((with_reducible refine Way.dec (fun _ => ?_) (fun _ => ?_)) <;> try (exfalso; omega)) | (with_reducible refine Way.nt ?_) | ((with_reducible refine Way.mk (fun _ => ?_) (fun _ => ?_)) <;> try (exfalso; rename_i hw; first | exact Bool.noConfusion ((Go.RowKit.Hid.out hv).symm.trans hw) | exact Bool.noConfusion (hw.symm.trans (Go.RowKit.Hid.out hv)))) | (with_reducible refine Drawn.mk (by kernel_rfl) ?_) | (refine Run.mk ?_)))
    refine Ret.mk ?_
    unfold cbC cbI
    rw [if_neg (by rw [hp.out]; decide), if_neg (by rw [hp.out]; decide)]
    rfl
  · have hv : (decide (pC p = 0) && decide (pI p = 0)) = false := by rw [decide_eq_false hp]; rfl
    replace hv := Lib.hid hv
    (refine fnM_of rfl rfl rfl rfl ?_; dsimp only [params, argAV, Ty.leaves, Ty.isSt])
    (repeat' (first | (with_reducible refine Cend.go ?_) | (with_reducible refine Step.mk True.intro ?_) | (with_reducible refine Step.mk ?_ ?_; focus (((try simp only [true_and, and_true, and_self, kmin, kmax, decide_eq_true_eq, decide_eq_false_iff_not, castD_self, castL_self, List.length_cons, List.length_nil, List.length_append, Int.natCast_add] at *) <;> omega))) | (with_reducible refine Step.mk ?_ ?_) | (with_reducible refine Way.t1 ?_) | (with_reducible refine Way.f1 ?_) | ((with_reducible refine Way.dec (fun _ => ?_) (fun _ => ?_)) <;> try (exfalso; omega)) | (with_reducible refine Way.nt ?_) | ((with_reducible refine Way.mk (fun _ => ?_) (fun _ => ?_)) <;> try (exfalso; rename_i hw; first | exact Bool.noConfusion ((Go.RowKit.Hid.out hv).symm.trans hw) | exact Bool.noConfusion (hw.symm.trans (Go.RowKit.Hid.out hv)))) | (with_reducible refine Drawn.mk (by kernel_rfl) ?_) | (refine Run.mk ?_)))
    refine Ret.mk ?_
    unfold cbC cbI
    rw [if_pos hp, if_pos hp]
    rfl
end Go.Proofs.Ythacjpemeaekdaa
