/- The walks of the reference's One, Highlight; the law WorddiffMatchesSpec. -/
import Derived.Test.YtdpcbffmmndhcaaWxRefWord
import Derived.Test.YtdpcbffmmndhcaaWxRefAl
import Derived.Test.YtdpcbffmmndhcaaWxTokU
import Derived.Test.YtdpcbffmmndhcaaWxEqP
import Derived.Test.YtdpcbffmmndhcaaHlPure
namespace Go.Proofs.Ytdpcbffmmndhcaa
open Go.RowKit
set_option maxRecDepth 10000
set_option linter.unusedSimpArgs false

def sp_One : SpecF := pureSp false [.str] (fun _ => True) (fun (a', _) => .v false [.d (.int .i64) (vC [a'])])
theorem One_sp : SpFact 23 sp_One := by
  refine ⟨⟨Try.f23, rfl, rfl, rfl, pureSp_ok (env1_fine (sp := [(41, sp_LCode)]) (eq := []) (inl := []) (cl := [4]) ⟨LCode_sp, True.intro⟩ True.intro True.intro) rfl (fun ⟨_, _⟩ _ => rfl) ?_⟩, pureSp_loc _ _ _ _⟩
  rintro ⟨s, u⟩ - -
  change ByteArray at s
  (refine fnM_of rfl rfl rfl rfl ?_; dsimp only [params, argAV, Ty.leaves, Ty.isSt])
  (repeat' (first | (with_reducible refine Step.mk True.intro ?_) | (with_reducible refine Step.mk ?_ ?_; focus (((try simp only [true_and, and_true, and_self, kmin, kmax, decide_eq_true_eq, decide_eq_false_iff_not, castD_self, castL_self, List.length_cons, List.length_nil, List.length_append, Int.natCast_add] at *) <;> omega))) | (with_reducible refine Step.mk ?_ ?_) | (with_reducible refine Way.t1 ?_) | (with_reducible refine Way.f1 ?_) | ((with_reducible refine Way.dec (fun _ => ?_) (fun _ => ?_)) <;> try (exfalso; omega)) | (with_reducible refine Way.nt ?_) | (with_reducible refine Way.mk (fun _ => ?_) (fun _ => ?_)) | (with_reducible refine Drawn.mk (by kernel_rfl) ?_) | (refine Run.mk ?_)))
  exact Ret.mk rfl
theorem part_size {n : Nat} : ∀ {l : List (Int × ByteArray)}, (∀ p ∈ l, p.1 = 0 ∨ p.1 = 1 ∨ p.1 = 2) → (∀ t ∈ oldT l, t.size ≤ n) → (∀ t ∈ newT l, t.size ≤ n) → ∀ p ∈ l, p.2.size ≤ n := by
  intro l hl ho hn p hp
  rcases hl p hp with h | h | h
  · exact ho p.2 (List.mem_filterMap.2 ⟨p, hp, by rw [if_neg (by rw [h]; decide)]⟩)
  · exact ho p.2 (List.mem_filterMap.2 ⟨p, hp, by rw [if_neg (by rw [h]; decide)]⟩)
  · exact hn p.2 (List.mem_filterMap.2 ⟨p, hp, by rw [if_neg (by rw [h]; decide)]⟩)
theorem stp_len : ∀ (r : List Int) (x y : List ByteArray), (stp r x y).length ≤ r.length := by
  intro r
  induction r with
  | nil => intro x y; exact Nat.le_refl _
  | cons s r ih =>
    intro x y
    unfold stp
    split
    · cases y with
      | nil => exact Nat.zero_le _
      | cons y0 y => simpa using ih x y
    · cases x with
      | nil => exact Nat.zero_le _
      | cons x0 x => simpa using ih x _
def mkX (s : Int) (k : Nat) : List Bool := if s = 2 then [] else List.replicate k (decide (s = 1))
def mkY (s : Int) (k : Nat) : List Bool := if s = 1 then [] else List.replicate k (decide (s = 2))
theorem mX_take {l : List (Int × ByteArray)} {k : Nat} (h : k < l.length) : mX (l.take (k + 1)) = mX (l.take k) ++ mkX l[k].1 l[k].2.size := by
  rw [List.take_add_one, List.getElem?_eq_getElem h, Option.toList_some]
  exact mX_snoc _ _ _
theorem mY_take {l : List (Int × ByteArray)} {k : Nat} (h : k < l.length) : mY (l.take (k + 1)) = mY (l.take k) ++ mkY l[k].1 l[k].2.size := by
  rw [List.take_add_one, List.getElem?_eq_getElem h, Option.toList_some]
  exact mY_snoc _ _ _
theorem mkX_len (s : Int) (k : Nat) : (mkX s k).length ≤ k := by unfold mkX; split <;> simp
theorem mkY_len (s : Int) (k : Nat) : (mkY s k).length ≤ k := by unfold mkY; split <;> simp
theorem mkX_succ (s : Int) (k : Nat) : mkX s (k + 1) = mkX s k ++ if s = 2 then [] else [decide (s = 1)] := by
  unfold mkX; split
  · rfl
  · exact List.replicate_succ'
theorem mkY_succ (s : Int) (k : Nat) : mkY s (k + 1) = mkY s k ++ if s = 1 then [] else [decide (s = 2)] := by
  unfold mkY; split
  · rfl
  · exact List.replicate_succ'
theorem mX_len {n : Nat} : ∀ {l : List (Int × ByteArray)}, (∀ p ∈ l, p.2.size ≤ n) → (mX l).length ≤ n * l.length := by
  intro l h
  unfold mX
  induction l with
  | nil => simp
  | cons p l ih =>
    rw [List.flatMap_cons, List.length_append, List.length_cons, Nat.mul_succ]
    have h1 := h p (by simp)
    have h2 := ih fun q hq => h q (by simp [hq])
    have : (if p.1 = 2 then [] else List.replicate p.2.size (decide (p.1 = 1))).length ≤ p.2.size := by split <;> simp
    omega
theorem mY_len {n : Nat} : ∀ {l : List (Int × ByteArray)}, (∀ p ∈ l, p.2.size ≤ n) → (mY l).length ≤ n * l.length := by
  intro l h
  unfold mY
  induction l with
  | nil => simp
  | cons p l ih =>
    rw [List.flatMap_cons, List.length_append, List.length_cons, Nat.mul_succ]
    have h1 := h p (by simp)
    have h2 := ih fun q hq => h q (by simp [hq])
    have : (if p.1 = 1 then [] else List.replicate p.2.size (decide (p.1 = 2))).length ≤ p.2.size := by split <;> simp
    omega
def sp_RHigh : SpecF := pureSp false [.str, .str] (fun (a', b', _) => a'.size ≤ 80 ∧ b'.size ≤ 80) (fun (a', b', _) => .tu [(false, [.d (.slice tPr) (rgs (mX (steps (toks a'.data.toList) (toks b'.data.toList))))]), (false, [.d (.slice tPr) (rgs (mY (steps (toks a'.data.toList) (toks b'.data.toList))))])])
theorem RHigh_sp : SpFact 26 sp_RHigh := by
  refine ⟨⟨Try.f26, rfl, rfl, rfl, pureSp_okF (env_fine (sp := [(25, sp_RTokF), (43, sp_RAl), (44, sp_rgs)]) (eq := [])
    ⟨RTokF_sp, RAl_sp, rgs_sp, True.intro⟩ True.intro) rfl (fun ⟨_, _, _⟩ _ => rfl) ?_⟩, pureSp_loc _ _ _ _⟩
  rintro ⟨s, t, u⟩ - ⟨hs, ht⟩
  change ByteArray at s t
  replace hs : s.size ≤ 80 := hs
  replace ht : t.size ≤ 80 := ht
  have fs := toks_facts s.data.toList
  have ft := toks_facts t.data.toList
  rw [show s.data.toList.length = s.size by rw [Array.length_toList]; rfl] at fs
  rw [show t.data.toList.length = t.size by rw [Array.length_toList]; rfl] at ft
  have hal := (align_len (toks s.data.toList) (toks t.data.toList)).1
  have hsl : (steps (toks s.data.toList) (toks t.data.toList)).length ≤ 160 := by
    have := stp_len (align (toks s.data.toList) (toks t.data.toList)) (toks s.data.toList) (toks t.data.toList)
    have h1 := fs.2.2.1
    have h2 := ft.2.2.1
    unfold steps
    omega
  obtain ⟨k1, k2, k3, -⟩ := steps_facts _ (toks s.data.toList) (toks t.data.toList) (Nat.le_refl _)
  have hps : ∀ p ∈ steps (toks s.data.toList) (toks t.data.toList), p.2.size ≤ 80 :=
    part_size k1 (fun x hx => by rw [show oldT (steps (toks s.data.toList) (toks t.data.toList)) = _ from k2] at hx; have := (fs.1 x hx).2; omega) (fun x hx => by rw [show newT (steps (toks s.data.toList) (toks t.data.toList)) = _ from k3] at hx; have := (ft.1 x hx).2; omega)
  have l1 := fs.2.2.1
  have l2 := ft.2.2.1
  clear k1 k2 k3 fs ft hal
  replace hps := Lib.hid hps
  (refine fnM_of rfl rfl rfl rfl ?_; dsimp only [params, argAV, Ty.leaves, Ty.isSt])
  (repeat' (first | (with_reducible refine Step.mk True.intro ?_) | (with_reducible refine Step.mk ?_ ?_; focus (((try simp only [true_and, and_true, and_self, kmin, kmax, decide_eq_true_eq, decide_eq_false_iff_not, castD_self, castL_self, List.length_cons, List.length_nil, List.length_append, Int.natCast_add] at *) <;> omega))) | (with_reducible refine Step.mk ?_ ?_) | (with_reducible refine Way.t1 ?_) | (with_reducible refine Way.f1 ?_) | ((with_reducible refine Way.dec (fun _ => ?_) (fun _ => ?_)) <;> try (exfalso; omega)) | (with_reducible refine Way.nt ?_) | (with_reducible refine Way.mk (fun _ => ?_) (fun _ => ?_)) | (with_reducible refine Drawn.mk (by kernel_rfl) ?_) | (refine Run.mk ?_)))
  refine loop_by (X := Nat × List Bool × List Bool) (fun x => [.put 6 (.v false [.d (.slice tStep) (steps (toks s.data.toList) (toks t.data.toList))]), .put 7 (.v false [.o 91]), .put 8 (.v false [.o 92]), .put 9 (.v false [.d (.int .i64) (x.1 : Int)])])
    (fun x => [.put 91 (.row 4 .bool x.2.1), .put 92 (.row 4 .bool x.2.2)])
    (fun x => x.1 ≤ (steps (toks s.data.toList) (toks t.data.toList)).length ∧ x.2.1 = mX ((steps (toks s.data.toList) (toks t.data.toList)).take x.1) ∧ x.2.2 = mY ((steps (toks s.data.toList) (toks t.data.toList)).take x.1)) (fun x => (steps (toks s.data.toList) (toks t.data.toList)).length - x.1) (0, [], []) ⟨Nat.zero_le _, rfl, rfl⟩ ?_ ?_
  · refine (Wk.nilrow 7 91 4 .bool rfl).trans ((Wk.nilrow 8 92 4 .bool rfl).trans ?_)
    (refine Wk.keep ?_ ?_ <;> repeat' (first | exact True.intro | refine And.intro rfl ?_ | refine And.intro (congrArg (fun z : Int => AV.v false [Lf.d (.int .i64) z]) (by first | omega | (simp only [Int.natCast_add, List.length_cons, List.length_append, List.length_nil]; omega))) ?_ | refine And.intro ?_ ?_))
  rintro ⟨i, x, y⟩ ⟨hi, hx, hy⟩
  dsimp only at hi hx hy ⊢
  generalize steps (toks s.data.toList) (toks t.data.toList) = L at *
  have bx : x.length ≤ 80 * i := by
    have := mX_len (n := 80) (l := L.take i) fun p hp => hps.out p (List.mem_of_mem_take hp)
    rw [List.length_take, Nat.min_eq_left hi, ← hx] at this
    exact this
  have bY : y.length ≤ 80 * i := by
    have := mY_len (n := 80) (l := L.take i) fun p hp => hps.out p (List.mem_of_mem_take hp)
    rw [List.length_take, Nat.min_eq_left hi, ← hy] at this
    exact this
  by_cases hil : i < L.length
  · have hg := getD_at (a := L) tStep.dflt hil
    have hpz := hps.out L[i] (List.getElem_mem hil)
    have hxt := mX_take hil
    have hyt := mY_take hil
    rw [← hx, ← hg] at hxt
    rw [← hy, ← hg] at hyt
    rw [← hg] at hpz
    replace hg := Lib.hid hg
    replace hxt := Lib.hid hxt
    replace hyt := Lib.hid hyt
    replace hx := Lib.hid hx
    replace hy := Lib.hid hy
    (repeat' (first | (with_reducible refine Step.mk True.intro ?_) | (with_reducible refine Step.mk ?_ ?_; focus (((try simp only [true_and, and_true, and_self, kmin, kmax, decide_eq_true_eq, decide_eq_false_iff_not, castD_self, castL_self, List.length_cons, List.length_nil, List.length_append, Int.natCast_add] at *) <;> omega))) | (with_reducible refine Step.mk ?_ ?_) | (with_reducible refine Way.t1 ?_) | (with_reducible refine Way.f1 ?_) | ((with_reducible refine Way.dec (fun _ => ?_) (fun _ => ?_)) <;> try (exfalso; omega)) | (with_reducible refine Way.nt ?_) | (with_reducible refine Way.mk (fun _ => ?_) (fun _ => ?_)) | (with_reducible refine Drawn.mk (by kernel_rfl) ?_) | (refine Run.mk ?_)))
    refine loop_by (X := Nat × List Bool × List Bool) (fun z => [.put 6 (.v false [.d (.slice tStep) L]), .put 7 (.v false [.o 91]), .put 8 (.v false [.o 92]), .put 9 (.v false [.d (.int .i64) (i : Int)]), .put 10 (.v false [.d (.int .i64) (z.1 : Int)])])
      (fun z => [.put 91 (.row 4 .bool z.2.1), .put 92 (.row 4 .bool z.2.2)])
      (fun z => z.1 ≤ (L.getD ((i : Int)).toNat tStep.dflt).2.size ∧ z.2.1 = x ++ mkX (L.getD ((i : Int)).toNat tStep.dflt).1 z.1 ∧ z.2.2 = y ++ mkY (L.getD ((i : Int)).toNat tStep.dflt).1 z.1) (fun z => (L.getD ((i : Int)).toNat tStep.dflt).2.size - z.1) (0, x, y) ⟨Nat.zero_le _, ?_, ?_⟩ ?_ ?_
    · show x = x ++ mkX (L.getD ((i : Int)).toNat tStep.dflt).1 0
      unfold mkX
      split <;> simp
    · show y = y ++ mkY (L.getD ((i : Int)).toNat tStep.dflt).1 0
      unfold mkY
      split <;> simp
    · (refine Wk.keep ?_ ?_ <;> repeat' (first | exact True.intro | refine And.intro rfl ?_ | refine And.intro (congrArg (fun z : Int => AV.v false [Lf.d (.int .i64) z]) (by first | omega | (simp only [Int.natCast_add, List.length_cons, List.length_append, List.length_nil]; omega))) ?_ | refine And.intro ?_ ?_))
    rintro ⟨k, v, w⟩ ⟨hk, hv, hw⟩
    dsimp only at hk hv hw ⊢
    have c1 : v.length ≤ 20000 := by rw [hv, List.length_append]; have := mkX_len (L.getD ((i : Int)).toNat tStep.dflt).1 k; omega
    have c2 : w.length ≤ 20000 := by rw [hw, List.length_append]; have := mkY_len (L.getD ((i : Int)).toNat tStep.dflt).1 k; omega
    by_cases hkl : k < (L.getD ((i : Int)).toNat tStep.dflt).2.size
    · have sx := mkX_succ (L.getD ((i : Int)).toNat tStep.dflt).1 k
      have sy := mkY_succ (L.getD ((i : Int)).toNat tStep.dflt).1 k
      replace sx := Lib.hid sx
      replace sy := Lib.hid sy
      replace hv := Lib.hid hv
      replace hw := Lib.hid hw
      (repeat' (first | (with_reducible refine Step.mk True.intro ?_) | (with_reducible refine Step.mk ?_ ?_; focus (((try simp only [true_and, and_true, and_self, kmin, kmax, decide_eq_true_eq, decide_eq_false_iff_not, castD_self, castL_self, List.length_cons, List.length_nil, List.length_append, Int.natCast_add] at *) <;> omega))) | (with_reducible refine Step.mk ?_ ?_) | (with_reducible refine Way.t1 ?_) | (with_reducible refine Way.f1 ?_) | ((with_reducible refine Way.dec (fun _ => ?_) (fun _ => ?_)) <;> try (exfalso; omega)) | (with_reducible refine Way.nt ?_) | (with_reducible refine Way.mk (fun _ => ?_) (fun _ => ?_)) | (with_reducible refine Drawn.mk (by kernel_rfl) ?_) | (refine Run.mk ?_)))
      · rename_i h1 h2 h3
        have h2 : (L.getD ((i : Int)).toNat tStep.dflt).1 = 2 := h2
        have sx := sx.out
        have sy := sy.out
        rw [if_pos h2, List.append_nil] at sx
        rw [if_neg (show ¬ (L.getD ((i : Int)).toNat tStep.dflt).1 = 1 from h3)] at sy
        (apply Back.by ((k + 1, v, _)); focus (refine Wk.ren [(92, 61)] rfl ?_ ?_ <;> repeat' (first | exact True.intro | refine And.intro rfl ?_ | refine And.intro (congrArg (fun z : Int => AV.v false [Lf.d (.int .i64) z]) (by first | omega | (simp only [Int.natCast_add, List.length_cons, List.length_append, List.length_nil]; omega))) ?_ | refine And.intro ?_ ?_)))
        · exact ⟨hkl, by rw [sx]; exact hv.out, by rw [sy, ← List.append_assoc, ← hw.out]; rfl⟩
        · show (L.getD ((i : Int)).toNat tStep.dflt).2.size - (k + 1) < (L.getD ((i : Int)).toNat tStep.dflt).2.size - k; omega
      · rename_i h1 h2 h3
        have sx := sx.out
        have sy := sy.out
        rw [if_neg (show ¬ (L.getD ((i : Int)).toNat tStep.dflt).1 = 2 from h2)] at sx
        rw [if_pos (show (L.getD ((i : Int)).toNat tStep.dflt).1 = 1 from h3), List.append_nil] at sy
        (apply Back.by ((k + 1, _, w)); focus (refine Wk.ren [(91, 46)] rfl ?_ ?_ <;> repeat' (first | exact True.intro | refine And.intro rfl ?_ | refine And.intro (congrArg (fun z : Int => AV.v false [Lf.d (.int .i64) z]) (by first | omega | (simp only [Int.natCast_add, List.length_cons, List.length_append, List.length_nil]; omega))) ?_ | refine And.intro ?_ ?_)))
        · exact ⟨hkl, by rw [sx, ← List.append_assoc, ← hv.out]; rfl, by rw [sy]; exact hw.out⟩
        · show (L.getD ((i : Int)).toNat tStep.dflt).2.size - (k + 1) < (L.getD ((i : Int)).toNat tStep.dflt).2.size - k; omega
      · rename_i h1 h2 h3
        have sx := sx.out
        have sy := sy.out
        rw [if_neg (show ¬ (L.getD ((i : Int)).toNat tStep.dflt).1 = 2 from h2)] at sx
        rw [if_neg (show ¬ (L.getD ((i : Int)).toNat tStep.dflt).1 = 1 from h3)] at sy
        (apply Back.by ((k + 1, _, _)); focus (refine Wk.ren [(91, 46), (92, 61)] rfl ?_ ?_ <;> repeat' (first | exact True.intro | refine And.intro rfl ?_ | refine And.intro (congrArg (fun z : Int => AV.v false [Lf.d (.int .i64) z]) (by first | omega | (simp only [Int.natCast_add, List.length_cons, List.length_append, List.length_nil]; omega))) ?_ | refine And.intro ?_ ?_)))
        · exact ⟨hkl, by rw [sx, ← List.append_assoc, ← hv.out]; rfl, by rw [sy, ← List.append_assoc, ← hw.out]; rfl⟩
        · show (L.getD ((i : Int)).toNat tStep.dflt).2.size - (k + 1) < (L.getD ((i : Int)).toNat tStep.dflt).2.size - k; omega
    · obtain rfl : k = (L.getD ((i : Int)).toNat tStep.dflt).2.size := by omega
      rw [← hxt.out] at hv
      rw [← hyt.out] at hw
      replace hv := Lib.hid hv
      replace hw := Lib.hid hw
      (repeat' (first | (with_reducible refine Step.mk True.intro ?_) | (with_reducible refine Step.mk ?_ ?_; focus (((try simp only [true_and, and_true, and_self, kmin, kmax, decide_eq_true_eq, decide_eq_false_iff_not, castD_self, castL_self, List.length_cons, List.length_nil, List.length_append, Int.natCast_add] at *) <;> omega))) | (with_reducible refine Step.mk ?_ ?_) | (with_reducible refine Way.t1 ?_) | (with_reducible refine Way.f1 ?_) | ((with_reducible refine Way.dec (fun _ => ?_) (fun _ => ?_)) <;> try (exfalso; omega)) | (with_reducible refine Way.nt ?_) | (with_reducible refine Way.mk (fun _ => ?_) (fun _ => ?_)) | (with_reducible refine Drawn.mk (by kernel_rfl) ?_) | (refine Run.mk ?_)))
      (refine Back.by ((i + 1, v, w)) ?_ ?_ ?_; focus (refine Wk.keep ?_ ?_ <;> repeat' (first | exact True.intro | refine And.intro rfl ?_ | refine And.intro (congrArg (fun z : Int => AV.v false [Lf.d (.int .i64) z]) (by first | omega | (simp only [Int.natCast_add, List.length_cons, List.length_append, List.length_nil]; omega))) ?_ | refine And.intro ?_ ?_)))
      · exact ⟨hil, hv.out, hw.out⟩
      · show L.length - (i + 1) < L.length - i; omega
  · rw [List.take_of_length_le (by omega)] at hx hy
    subst hx
    subst hy
    (repeat' (first | (with_reducible refine Step.mk True.intro ?_) | (with_reducible refine Step.mk ?_ ?_; focus (((try simp only [true_and, and_true, and_self, kmin, kmax, decide_eq_true_eq, decide_eq_false_iff_not, castD_self, castL_self, List.length_cons, List.length_nil, List.length_append, Int.natCast_add] at *) <;> omega))) | (with_reducible refine Step.mk ?_ ?_) | (with_reducible refine Way.t1 ?_) | (with_reducible refine Way.f1 ?_) | ((with_reducible refine Way.dec (fun _ => ?_) (fun _ => ?_)) <;> try (exfalso; omega)) | (with_reducible refine Way.nt ?_) | (with_reducible refine Way.mk (fun _ => ?_) (fun _ => ?_)) | (with_reducible refine Drawn.mk (by kernel_rfl) ?_) | (refine Run.mk ?_)))
    refine Ret.mk ?_
    exact ⟨⟨rfl, .frz rfl, True.intro⟩, ⟨rfl, .frz rfl, True.intro⟩, True.intro⟩
theorem hl_facts {a b : ByteArray} (h1 : vC [a] = 0) (h2 : vC [b] = 0) : a.size ≤ 80 ∧ b.size ≤ 80 ∧ hlC a b = 0 ∧ hlX a b = rgs (mX (steps (toks a.data.toList) (toks b.data.toList))) ∧ hlY a b = rgs (mY (steps (toks a.data.toList) (toks b.data.toList))) := by
  have h0 : hlC a b = 0 := by unfold hlC; rw [if_pos h1]; exact h2
  exact ⟨(((vC_good [a]).1 h1).2 a (by simp)).1, (((vC_good [b]).1 h2).2 b (by simp)).1, h0, if_pos h0, if_pos h0⟩
theorem law_WorddiffMatchesSpec : SpFact 7 (pureSp false [.str, .str] (fun _ => True) (fun _ => .v false [.d .bool true])) := by
  refine ⟨⟨Try.f7, rfl, rfl, rfl, pureSp_ok (env_fine (sp := [(13, sp_Tokens), (22, sp_Highlight), (23, sp_One), (24, sp_At), (25, sp_RTokF), (26, sp_RHigh), (14, sp_true), (18, sp_Strings), (27, sp_Pairs)]) (eq := [(24, true)])
    ⟨Tokens_sp, Highlight_sp, One_sp, At_sp, RTokF_sp, RHigh_sp, split_sp, Strings_sp, Pairs_sp, True.intro⟩ ⟨eq_fault, True.intro⟩) rfl (fun _ _ => rfl) ?_⟩, pureSp_loc _ _ _ _⟩
  rintro ⟨a, b, u⟩ - -
  change ByteArray at a b
  by_cases h1 : vC [a] = 0
  · by_cases h2 : vC [b] = 0
    · obtain ⟨z1, z2, eC, eX, eY⟩ := hl_facts h1 h2
      have eT : tokV a = toks a.data.toList := if_pos h1
      have hv : true = true := rfl
      have hr : true = true := rfl
      replace h1 := Lib.hid h1
      replace h2 := Lib.hid h2
      replace eT := Lib.hid eT
      replace eC := Lib.hid eC
      replace eX := Lib.hid eX
      replace eY := Lib.hid eY
      replace hv := Lib.hid hv
      replace hr := Lib.hid hr
      (refine fnM_of rfl rfl rfl rfl ?_; dsimp only [params, argAV, Ty.leaves, Ty.isSt])
      (repeat' (first | (with_reducible refine Step.mk True.intro ?_) | (with_reducible refine Step.mk ?_ ?_; focus (((try simp only [true_and, and_true, and_self, kmin, kmax, decide_eq_true_eq, decide_eq_false_iff_not, castD_self, castL_self, List.length_cons, List.length_nil, List.length_append, Int.natCast_add] at *) <;> omega))) | (with_reducible refine Step.mk ?_ ?_) | (with_reducible refine Way.t1 ?_) | (with_reducible refine Way.f1 ?_) | ((with_reducible refine Way.dec (fun _ => ?_) (fun _ => ?_)) <;> try (exfalso; omega)) | (with_reducible refine Way.nt ?_) | (with_reducible refine Way.mk (fun _ => ?_) (fun _ => ?_)) | (with_reducible refine Drawn.mk (by kernel_rfl) ?_) | (refine Run.mk ?_)))
      all_goals try exact Ret.mk rfl
      all_goals first
        | exact z1
        | exact ⟨z1, z2⟩
        | (show ((hlX a b).length : Int) ≤ 9223372036854775807; rw [eX.out]; decide)
        | (show ((hlY a b).length : Int) ≤ 9223372036854775807; rw [eY.out]; decide)
        | (show ((tokV a).length : Int) ≤ 9223372036854775807; rw [eT.out]; decide)
        | skip
      all_goals (exfalso; first
        | exact absurd h1.out (by assumption)
        | exact absurd (by assumption) h1.out
        | exact absurd h2.out (by assumption)
        | exact absurd (by assumption) h2.out
        | exact absurd eT.out (by assumption)
        | exact absurd eX.out (by assumption)
        | exact absurd eY.out (by assumption)
        | exact absurd eC.out (by assumption)
        | exact Bool.noConfusion (hv.out.symm.trans (by assumption))
        | exact Bool.noConfusion (hr.out.symm.trans (by assumption))
        | exact absurd (show ((hlX a b).length : Int) = 0 by rw [eX.out]; rfl) (by assumption)
        | exact absurd (show ((hlY a b).length : Int) = 0 by rw [eY.out]; rfl) (by assumption)
        | exact absurd (show ((tokV a).length : Int) = 0 by rw [eT.out]; rfl) (by assumption))
    · have eC : hlC a b = vC [b] := if_pos h1
      have eI : hlI a b = 1 := (if_pos h1).trans (if_neg h2)
      have h0 : ¬ hlC a b = 0 := by rw [eC]; exact h2
      have eX : hlX a b = [] := if_neg h0
      have eY : hlY a b = [] := if_neg h0
      have eT : tokV a = toks a.data.toList := if_pos h1
      have z1 : a.size ≤ 80 := (((vC_good [a]).1 h1).2 a (by simp)).1
      have z2 : True := True.intro
      have hv : (decide (hlC a b = vC [b]) && decide (hlI a b = 1)) = true := by rw [eC, eI]; simp
      have hr : true = true := rfl
      clear h0
      replace h1 := Lib.hid h1
      replace h2 := Lib.hid h2
      replace eT := Lib.hid eT
      replace eC := Lib.hid eC
      replace eX := Lib.hid eX
      replace eY := Lib.hid eY
      replace hv := Lib.hid hv
      replace hr := Lib.hid hr
      (refine fnM_of rfl rfl rfl rfl ?_; dsimp only [params, argAV, Ty.leaves, Ty.isSt])
      (repeat' (first | (with_reducible refine Step.mk True.intro ?_) | (with_reducible refine Step.mk ?_ ?_; focus (((try simp only [true_and, and_true, and_self, kmin, kmax, decide_eq_true_eq, decide_eq_false_iff_not, castD_self, castL_self, List.length_cons, List.length_nil, List.length_append, Int.natCast_add] at *) <;> omega))) | (with_reducible refine Step.mk ?_ ?_) | (with_reducible refine Way.t1 ?_) | (with_reducible refine Way.f1 ?_) | ((with_reducible refine Way.dec (fun _ => ?_) (fun _ => ?_)) <;> try (exfalso; omega)) | (with_reducible refine Way.nt ?_) | (with_reducible refine Way.mk (fun _ => ?_) (fun _ => ?_)) | (with_reducible refine Drawn.mk (by kernel_rfl) ?_) | (refine Run.mk ?_)))
      all_goals try exact Ret.mk rfl
      all_goals first
        | exact z1
        | exact ⟨z1, z2⟩
        | (show ((hlX a b).length : Int) ≤ 9223372036854775807; rw [eX.out]; decide)
        | (show ((hlY a b).length : Int) ≤ 9223372036854775807; rw [eY.out]; decide)
        | (show ((tokV a).length : Int) ≤ 9223372036854775807; rw [eT.out]; decide)
        | skip
      all_goals (exfalso; first
        | exact absurd h1.out (by assumption)
        | exact absurd (by assumption) h1.out
        | exact absurd h2.out (by assumption)
        | exact absurd (by assumption) h2.out
        | exact absurd eT.out (by assumption)
        | exact absurd eX.out (by assumption)
        | exact absurd eY.out (by assumption)
        | exact absurd eC.out (by assumption)
        | exact Bool.noConfusion (hv.out.symm.trans (by assumption))
        | exact Bool.noConfusion (hr.out.symm.trans (by assumption))
        | exact absurd (show ((hlX a b).length : Int) = 0 by rw [eX.out]; rfl) (by assumption)
        | exact absurd (show ((hlY a b).length : Int) = 0 by rw [eY.out]; rfl) (by assumption)
        | exact absurd (show ((tokV a).length : Int) = 0 by rw [eT.out]; rfl) (by assumption))
  · have eC : hlC a b = vC [a] := if_neg h1
    have eI : hlI a b = 0 := if_neg h1
    have h0 : ¬ hlC a b = 0 := by rw [eC]; exact h1
    have eX : hlX a b = [] := if_neg h0
    have eY : hlY a b = [] := if_neg h0
    have eT : tokV a = [] := if_neg h1
    have z1 : True := True.intro
    have z2 : True := True.intro
    have h2 : True := True.intro
    have hv : (decide (hlC a b = vC [a]) && decide (hlI a b = 0)) = true := by rw [eC, eI]; simp
    have hr : (decide (vC [a] = vC [a]) && decide ((0 : Int) = 0)) = true := by simp
    clear h0
    replace h1 := Lib.hid h1
    replace h2 := Lib.hid h2
    replace eT := Lib.hid eT
    replace eC := Lib.hid eC
    replace eX := Lib.hid eX
    replace eY := Lib.hid eY
    replace hv := Lib.hid hv
    replace hr := Lib.hid hr
    (refine fnM_of rfl rfl rfl rfl ?_; dsimp only [params, argAV, Ty.leaves, Ty.isSt])
    (repeat' (first | (with_reducible refine Step.mk True.intro ?_) | (with_reducible refine Step.mk ?_ ?_; focus (((try simp only [true_and, and_true, and_self, kmin, kmax, decide_eq_true_eq, decide_eq_false_iff_not, castD_self, castL_self, List.length_cons, List.length_nil, List.length_append, Int.natCast_add] at *) <;> omega))) | (with_reducible refine Step.mk ?_ ?_) | (with_reducible refine Way.t1 ?_) | (with_reducible refine Way.f1 ?_) | ((with_reducible refine Way.dec (fun _ => ?_) (fun _ => ?_)) <;> try (exfalso; omega)) | (with_reducible refine Way.nt ?_) | (with_reducible refine Way.mk (fun _ => ?_) (fun _ => ?_)) | (with_reducible refine Drawn.mk (by kernel_rfl) ?_) | (refine Run.mk ?_)))
    all_goals try exact Ret.mk rfl
    all_goals first
      | exact z1
      | exact ⟨z1, z2⟩
      | (show ((hlX a b).length : Int) ≤ 9223372036854775807; rw [eX.out]; decide)
      | (show ((hlY a b).length : Int) ≤ 9223372036854775807; rw [eY.out]; decide)
      | (show ((tokV a).length : Int) ≤ 9223372036854775807; rw [eT.out]; decide)
      | skip
    all_goals (exfalso; first
      | exact absurd h1.out (by assumption)
      | exact absurd (by assumption) h1.out
      | exact absurd h2.out (by assumption)
      | exact absurd (by assumption) h2.out
      | exact absurd eT.out (by assumption)
      | exact absurd eX.out (by assumption)
      | exact absurd eY.out (by assumption)
      | exact absurd eC.out (by assumption)
      | exact Bool.noConfusion (hv.out.symm.trans (by assumption))
      | exact Bool.noConfusion (hr.out.symm.trans (by assumption))
      | exact absurd (show ((hlX a b).length : Int) = 0 by rw [eX.out]; rfl) (by assumption)
      | exact absurd (show ((hlY a b).length : Int) = 0 by rw [eY.out]; rfl) (by assumption)
      | exact absurd (show ((tokV a).length : Int) = 0 by rw [eT.out]; rfl) (by assumption))
end Go.Proofs.Ytdpcbffmmndhcaa
