/- The walks of the reference's news, moved, Commute, Rebase. -/
import Derived.Test.YtmbeokkaiblblaaWxRefPF
import Derived.Test.YtmbeokkaiblblaaCommPure
namespace Go.Proofs.Ytmbeokkaiblblaa
open Go.RowKit
set_option maxRecDepth 10000
set_option linter.unusedSimpArgs false

theorem newR_len' : ∀ (p : List Hk) (g : Int), (newR g p).length = p.length
  | [], _ => rfl
  | h :: p, g => by simp [newR, newR_len' p]
theorem newR_at : ∀ (p : List Hk) (g : Int) (i : Nat) (h : i < p.length) (h' : i < (newR g p).length), (newR g p)[i] = rgNew (g + pGrow (p.take i)) p[i]
  | [], _, i, h, _ => by simp at h
  | x :: p, g, 0, h, _ => by simp [newR, pGrow]
  | x :: p, g, i + 1, h, h' => by
    have h2 : i < p.length := by simpa using h
    show (newR (g + hkGrow x) p)[i]'(by rw [newR_len']; exact h2) = rgNew (g + (hkGrow x + pGrow (p.take i))) p[i]
    rw [newR_at p _ i h2 (by rw [newR_len']; exact h2), Int.add_assoc]
theorem dl_append' (x : Int) : ∀ (l m : List Rg), dl (l ++ m) x = dl l x + dl m x
  | [], m => (Int.zero_add _).symm
  | r :: l, m => by
    show (if r.2.1 < x then r.2.2 else 0) + dl (l ++ m) x = (if r.2.1 < x then r.2.2 else 0) + dl l x + dl m x
    rw [dl_append' x l m, Int.add_assoc]
theorem dl_take (l : List Rg) (x : Int) (i : Nat) (h : i < l.length) : dl (l.take (i + 1)) x = dl (l.take i) x + (if l[i].2.1 < x then l[i].2.2 else 0) := by
  rw [List.take_add_one, List.getElem?_eq_getElem h, Option.toList_some, dl_append']
  show _ + ((if l[i].2.1 < x then l[i].2.2 else 0) + 0) = _
  rw [Int.add_zero]
theorem dl_bd' (x : Int) : ∀ (l : List Rg), (∀ r ∈ l, -120 ≤ r.2.2 ∧ r.2.2 ≤ 120) → -(120 * (l.length : Int)) ≤ dl l x ∧ dl l x ≤ 120 * (l.length : Int)
  | [], _ => by simp [dl]
  | r :: l, h => by
    obtain ⟨i1, i2⟩ := dl_bd' x l fun q hq => h q (by simp [hq])
    obtain ⟨r1, r2⟩ := h r (by simp)
    show -(120 * ((r :: l).length : Int)) ≤ (if r.2.1 < x then r.2.2 else 0) + dl l x ∧ (if r.2.1 < x then r.2.2 else 0) + dl l x ≤ _
    rw [List.length_cons]
    split <;> omega
theorem newR_gr : ∀ (p : List Hk) (g : Int), (∀ x ∈ p, HkOk x) → ∀ r ∈ newR g p, -120 ≤ r.2.2 ∧ r.2.2 ≤ 120
  | [], _, _, r, hr => by simp [newR] at hr
  | k :: p, g, h, r, hr => by
    rcases List.mem_cons.1 (show r ∈ rgNew g k :: newR (g + hkGrow k) p from hr) with rfl | hr
    · obtain ⟨-, -, h3, h4⟩ := h k (by simp)
      unfold rgNew hkGrow
      dsimp only
      omega
    · exact newR_gr p _ (fun x hx => h x (by simp [hx])) r hr
theorem oldR_gr {p : List Hk} (h : ∀ x ∈ p, HkB x) : ∀ r ∈ oldR p, -120 ≤ r.2.2 ∧ r.2.2 ≤ 120 := by
  intro r hr
  obtain ⟨k, hk, rfl⟩ := List.mem_map.1 hr
  obtain ⟨-, -, h3, h4⟩ := h k hk
  unfold rgOld hkGrow
  dsimp only
  omega
theorem oldR_len' (p : List Hk) : (oldR p).length = p.length := by unfold oldR; rw [List.length_map]
theorem oldR_at (p : List Hk) (i : Nat) (h : i < p.length) (h' : i < (oldR p).length) : (oldR p)[i] = rgOld p[i] := by simp [oldR]
theorem shift_take {l : List Rg} {s : Int} {p : List Hk} {k : Nat} (h : k < p.length) : (p.take (k + 1)).map (shiftH l s) = (p.take k).map (shiftH l s) ++ [shiftH l s p[k]] := by
  rw [List.take_add_one, List.getElem?_eq_getElem h, Option.toList_some, List.map_append]; rfl

def sp_news : SpecF := pureSp true [tPat, .int .i64] (fun (p', i', _) => ((∀ h ∈ p', HkOk h) ∧ p'.length ≤ 130) ∧ 0 ≤ i' ∧ i' < p'.length) (fun (p', i', _) => .tu [(false, [.d (.int .i64) ((newR 0 p').getD i'.toNat (0, 0, 0)).1]), (false, [.d (.int .i64) ((newR 0 p').getD i'.toNat (0, 0, 0)).2.1])])
theorem news_sp : SpFact 53 sp_news := by
  refine ⟨⟨Try.f53, rfl, rfl, rfl, pureSp_ok (env_fine (sp := [(42, sp_RGrow)]) (eq := []) ⟨RGrow_sp, True.intro⟩ True.intro) rfl (fun ⟨_, _, _⟩ _ => rfl) ?_⟩, pureSp_loc _ _ _ _⟩
  rintro ⟨p, i', u⟩ - ⟨⟨hok, hlen⟩, hi0, hi1⟩
  change List Hk at p
  change Int at i'
  replace hlen : p.length ≤ 130 := hlen
  replace hok : ∀ h ∈ p, HkOk h := hok
  replace hi0 : 0 ≤ i' := hi0
  replace hi1 : i' < (p.length : Int) := hi1
  obtain ⟨i, rfl⟩ : ∃ i : Nat, i' = (i : Int) := ⟨i'.toNat, by omega⟩
  have hil : i < p.length := by omega
  have hr : (newR 0 p).getD ((i : Int)).toNat (0, 0, 0) = rgNew (pGrow (p.take i)) p[i] := by
    rw [Int.toNat_natCast, List.getD_eq_getElem?_getD, List.getElem?_eq_getElem (by rw [newR_len']; exact hil)]
    show (newR 0 p)[i]'(by rw [newR_len']; exact hil) = _
    rw [newR_at p 0 i hil, Int.zero_add]
  have hgi := getD_at (a := p) tHk.dflt hil
  have hoi := hok p[i] (List.getElem_mem hil)
  rw [← hgi] at hr hoi
  dsimp only
  rw [hr]
  obtain ⟨q1, q2, q3, q4⟩ := hoi
  have hbd := pGrow_bd
  replace hok := Lib.hid hok
  replace hbd := Lib.hid hbd
  replace hgi := Lib.hid hgi
  clear hr
  (refine fnM_of rfl rfl rfl rfl ?_; dsimp only [params, argAV, Ty.leaves, Ty.isSt])
  (repeat' (first | (with_reducible refine Step.mk True.intro ?_) | (with_reducible refine Step.mk ?_ ?_; focus (((try simp only [true_and, and_true, and_self, kmin, kmax, decide_eq_true_eq, decide_eq_false_iff_not, castD_self, castL_self, List.length_cons, List.length_nil, List.length_append, Int.natCast_add] at *) <;> omega))) | (with_reducible refine Step.mk ?_ ?_) | (with_reducible refine Way.t1 ?_) | (with_reducible refine Way.f1 ?_) | ((with_reducible refine Way.dec (fun _ => ?_) (fun _ => ?_)) <;> try (exfalso; omega)) | (with_reducible refine Way.nt ?_) | (with_reducible refine Way.mk (fun _ => ?_) (fun _ => ?_)) | (with_reducible refine Drawn.mk (by kernel_rfl) ?_) | (refine Run.mk ?_)))
  refine loop_by (X := Nat × Int) (fun x => [.put 1 (.v false [.d (.int .i64) (i : Int)]), .put 2 (.v false [.p 2 0]), .put 6 (.v false [.d (.int .i64) x.2]), .put 7 (.v false [.d (.int .i64) (x.1 : Int)])])
    (fun _ => [.put 2 (.box 24 [.d (.slice tHk) p])]) (fun x => x.1 ≤ i ∧ x.2 = (p.getD ((i : Int)).toNat tHk.dflt).1 + pGrow (p.take x.1)) (fun x => i - x.1) (0, (p.getD ((i : Int)).toNat tHk.dflt).1 + 0) ⟨Nat.zero_le _, rfl⟩ ?_ ?_
  · refine Wk.keep ⟨rfl, rfl, congrArg (fun z : Int => AV.v false [Lf.d (.int .i64) z]) (Int.add_zero _).symm, rfl, True.intro⟩ ⟨rfl, True.intro⟩
  rintro ⟨k, n⟩ ⟨hk, hn⟩
  dsimp only at hk hn ⊢
  have bd := hbd.out (p.take k) fun x hx => hok.out x (List.mem_of_mem_take hx)
  rw [List.length_take, Nat.min_eq_left (by omega)] at bd
  by_cases hlt : k < i
  · have hkl : k < p.length := by omega
    have hg := getD_at (a := p) tHk.dflt hkl
    have ho := hok.out p[k] (List.getElem_mem hkl)
    have hs : pGrow (p.take (k + 1)) = pGrow (p.take k) + hkGrow p[k] := by rw [List.take_add_one, List.getElem?_eq_getElem hkl, Option.toList_some, pGrow_append]; simp [pGrow]
    rw [← hg] at ho hs
    have gb : -120 ≤ hkGrow (p.getD ((k : Int)).toNat tHk.dflt) ∧ hkGrow (p.getD ((k : Int)).toNat tHk.dflt) ≤ 120 := by obtain ⟨o1, o2, o3, o4⟩ := ho; unfold hkGrow; omega
    replace hg := Lib.hid hg
    replace hs := Lib.hid hs
    replace ho := Lib.hid ho
    (repeat' (first | (with_reducible refine Step.mk True.intro ?_) | (with_reducible refine Step.mk ?_ ?_; focus (((try simp only [true_and, and_true, and_self, kmin, kmax, decide_eq_true_eq, decide_eq_false_iff_not, castD_self, castL_self, List.length_cons, List.length_nil, List.length_append, Int.natCast_add] at *) <;> omega))) | (with_reducible refine Step.mk ?_ ?_) | (with_reducible refine Way.t1 ?_) | (with_reducible refine Way.f1 ?_) | ((with_reducible refine Way.dec (fun _ => ?_) (fun _ => ?_)) <;> try (exfalso; omega)) | (with_reducible refine Way.nt ?_) | (with_reducible refine Way.mk (fun _ => ?_) (fun _ => ?_)) | (with_reducible refine Drawn.mk (by kernel_rfl) ?_) | (refine Run.mk ?_)))
    · exact ho.out.b
    · show (-9223372036854775808 : Int) ≤ n + hkGrow (p.getD ((k : Int)).toNat tHk.dflt) ∧ n + hkGrow (p.getD ((k : Int)).toNat tHk.dflt) ≤ 9223372036854775807
      omega
    (apply Back.by ((k + 1, _)); focus (refine Wk.keep ?_ ?_ <;> repeat' (first | exact True.intro | refine And.intro rfl ?_ | refine And.intro (congrArg (fun z : Int => AV.v false [Lf.d (.int .i64) z]) (by first | omega | (simp only [Int.natCast_add, List.length_cons, List.length_append, List.length_nil]; omega))) ?_ | refine And.intro ?_ ?_)))
    · refine ⟨hlt, ?_⟩
      show n + hkGrow (p.getD ((k : Int)).toNat tHk.dflt) = _
      rw [hs.out, hn, Int.add_assoc]
    · show i - (k + 1) < i - k; omega
  · obtain rfl : k = i := by omega
    (repeat' (first | (with_reducible refine Step.mk True.intro ?_) | (with_reducible refine Step.mk ?_ ?_; focus (((try simp only [true_and, and_true, and_self, kmin, kmax, decide_eq_true_eq, decide_eq_false_iff_not, castD_self, castL_self, List.length_cons, List.length_nil, List.length_append, Int.natCast_add] at *) <;> omega))) | (with_reducible refine Step.mk ?_ ?_) | (with_reducible refine Way.t1 ?_) | (with_reducible refine Way.f1 ?_) | ((with_reducible refine Way.dec (fun _ => ?_) (fun _ => ?_)) <;> try (exfalso; omega)) | (with_reducible refine Way.nt ?_) | (with_reducible refine Way.mk (fun _ => ?_) (fun _ => ?_)) | (with_reducible refine Drawn.mk (by kernel_rfl) ?_) | (refine Run.mk ?_)))
    refine Ret.mk ?_
    rw [hn]
    rfl
def sp_moved' : SpecF := pureSp false [tHk, .int .i64] (fun (h', n', _) => HkOk h' ∧ -500000 ≤ n' ∧ n' ≤ 500000) (fun (h', n', _) => .v true (tHk.leaves (h'.1 + n', h'.2)))
theorem rmoved_sp : SpFact 54 sp_moved' := by
  refine ⟨⟨Try.f54, rfl, rfl, rfl, pureSp_ok (env_fine (sp := []) (eq := []) True.intro True.intro) rfl (fun ⟨_, _, _⟩ _ => rfl) ?_⟩, pureSp_loc _ _ _ _⟩
  rintro ⟨⟨a, o, n⟩, m, u⟩ - ⟨⟨h1, h2, h3, h4⟩, h5, h6⟩
  change Int at a m
  change List ByteArray at o n
  replace h1 : 0 ≤ a := h1
  replace h2 : a ≤ 120 := h2
  replace h5 : -500000 ≤ m := h5
  replace h6 : m ≤ 500000 := h6
  (refine fnM_of rfl rfl rfl rfl ?_; dsimp only [params, argAV, Ty.leaves, Ty.isSt])
  (repeat' (first | (with_reducible refine Step.mk True.intro ?_) | (with_reducible refine Step.mk ?_ ?_; focus (((try simp only [true_and, and_true, and_self, kmin, kmax, decide_eq_true_eq, decide_eq_false_iff_not, castD_self, castL_self, List.length_cons, List.length_nil, List.length_append, Int.natCast_add] at *) <;> omega))) | (with_reducible refine Step.mk ?_ ?_) | (with_reducible refine Way.t1 ?_) | (with_reducible refine Way.f1 ?_) | ((with_reducible refine Way.dec (fun _ => ?_) (fun _ => ?_)) <;> try (exfalso; omega)) | (with_reducible refine Way.nt ?_) | (with_reducible refine Way.mk (fun _ => ?_) (fun _ => ?_)) | (with_reducible refine Drawn.mk (by kernel_rfl) ?_) | (refine Run.mk ?_)))
  exact Ret.mk rfl

def noT (p q : List Hk) (j : Nat) : Prop := ∀ x ∈ newR 0 p, ∀ y ∈ oldR (q.take j), touch x y = false
def noTi (p : List Hk) (y : Rg) (i : Nat) : Prop := ∀ x ∈ (newR 0 p).take i, touch x y = false
theorem noTi_next {p : List Hk} {y : Rg} {i : Nat} (h : noTi p y i) (hi : i < p.length) (ht : touch ((newR 0 p).getD i (0, 0, 0)) y = false) : noTi p y (i + 1) := by
  intro x hx
  have hil : i < (newR 0 p).length := by rw [newR_len']; exact hi
  rw [List.take_add_one, List.getElem?_eq_getElem hil, Option.toList_some] at hx
  rcases List.mem_append.1 hx with hx | hx
  · exact h x hx
  · have : x = (newR 0 p)[i] := by simpa using hx
    rw [List.getD_eq_getElem?_getD, List.getElem?_eq_getElem hil] at ht
    rw [this]; exact ht
theorem noT_next {p q : List Hk} {j : Nat} (h : noT p q j) (hj : j < q.length) (hi : noTi p (rgOld q[j]) p.length) : noT p q (j + 1) := by
  intro x hx y hy
  rw [List.take_add_one, List.getElem?_eq_getElem hj, Option.toList_some] at hy
  unfold oldR at hy
  rw [List.map_append] at hy
  rcases List.mem_append.1 hy with hy | hy
  · exact h x hx y hy
  · have : y = rgOld q[j] := by simpa using hy
    rw [this]
    exact hi x (by rw [List.take_of_length_le (by rw [newR_len']; exact Nat.le_refl _)]; exact hx)
theorem touch_meet {p q : List Hk} {i j : Nat} (hi : i < p.length) (hj : j < q.length) (ht : touch ((newR 0 p).getD i (0, 0, 0)) (rgOld q[j]) = true) : meet (newR 0 p) (oldR q) = true := by
  cases hm : meet (newR 0 p) (oldR q) with
  | true => rfl
  | false =>
    have hil : i < (newR 0 p).length := by rw [newR_len']; exact hi
    rw [List.getD_eq_getElem?_getD, List.getElem?_eq_getElem hil] at ht
    have := meet_iff.1 hm (newR 0 p)[i] (List.getElem_mem hil) (rgOld q[j]) (List.mem_map.2 ⟨q[j], List.getElem_mem hj, rfl⟩)
    rw [show touch ((some (newR 0 p)[i]).getD (0, 0, 0)) (rgOld q[j]) = touch (newR 0 p)[i] (rgOld q[j]) from rfl, this] at ht
    cases ht
theorem noT_meet {p q : List Hk} (h : noT p q q.length) : meet (newR 0 p) (oldR q) = false := by
  refine meet_iff.2 fun x hx y hy => h x hx y ?_
  rw [List.take_of_length_le (Nat.le_refl _)]
  exact hy
theorem touch_of {x y : Rg} (h1 : y.1 ≤ x.2.1) (h2 : x.1 ≤ y.2.1) : touch x y = true := by unfold touch; rw [decide_eq_true h1, decide_eq_true h2]; rfl
theorem touch_not1 {x y : Rg} (h1 : ¬ y.1 ≤ x.2.1) : touch x y = false := by unfold touch; rw [decide_eq_false h1]; rfl
theorem touch_not2 {x y : Rg} (h2 : ¬ x.1 ≤ y.2.1) : touch x y = false := by unfold touch; rw [decide_eq_false h2, Bool.and_false]
theorem shiftH_b {l : List Rg} {s : Int} {h : Hk} (hl : ∀ r ∈ l, -120 ≤ r.2.2 ∧ r.2.2 ≤ 120) (hn : l.length ≤ 130) (hs : s = 1 ∨ s = -1) (hk : HkOk h) : HkB (shiftH l s h) := by
  obtain ⟨h1, h2, h3, h4⟩ := hk
  obtain ⟨d1, d2⟩ := dl_bd' h.1 l hl
  refine ⟨?_, ?_, h3, h4⟩
  · show -1000000 ≤ h.1 + s * dl l h.1
    rcases hs with rfl | rfl <;> omega
  · show h.1 + s * dl l h.1 ≤ 1000000
    rcases hs with rfl | rfl <;> omega
end Go.Proofs.Ytmbeokkaiblblaa
