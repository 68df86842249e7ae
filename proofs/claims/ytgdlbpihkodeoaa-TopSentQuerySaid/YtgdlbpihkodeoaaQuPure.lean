/- Revision queries as plain data: nodes, their check, what they select. No program in sight. -/
import Derived.Test.YtgdlbpihkodeoaaHiPure
namespace Go.Proofs.Ytgdlbpihkodeoaa
open Go.RowKit

abbrev Nd : Type := Int × Int × Int × Int
abbrev tNd : Ty := .st (.pair (.int .i64) (.pair (.int .i64) (.pair (.int .i64) (.int .i64))))
/-- queries of the kinds that the laws ask -/
inductive Qx where
  | none
  | com (n : Int)
  | un (k : Int) (a : Qx)
  | bi (k : Int) (a b : Qx)
def Qx.size : Qx → Nat
  | .none => 1
  | .com _ => 1
  | .un _ a => a.size + 1
  | .bi _ a b => a.size + b.size + 1
theorem Qx.pos : ∀ t : Qx, 0 < t.size
  | .none => Nat.one_pos
  | .com _ => Nat.one_pos
  | .un _ a => Nat.succ_pos _
  | .bi _ a b => Nat.succ_pos _
/-- the nodes, where `b` nodes lie ahead -/
def Qx.at (b : Nat) : Qx → List Nd
  | .none => [(2, 0, 0, 0)]
  | .com n => [(3, n, 0, 0)]
  | .un k a => a.at b ++ [(k, 0, (b : Int) + a.size - 1, 0)]
  | .bi k x y => x.at b ++ y.at (b + x.size) ++ [(k, 0, (b : Int) + x.size - 1, (b : Int) + x.size + y.size - 1)]
theorem Qx.at_len : ∀ (t : Qx) (b : Nat), (t.at b).length = t.size
  | .none, _ => rfl
  | .com _, _ => rfl
  | .un _ a, b => by simp [Qx.at, Qx.size, Qx.at_len a]
  | .bi _ x y, b => by simp only [Qx.at, Qx.size, List.length_append, Qx.at_len x, Qx.at_len y, List.length_cons, List.length_nil]
/-- kinds that are asked: 8 ancestors, 12 heads; 14 union, 15 both, 16 minus; commits' numbers from 0 to 59 -/
def Qx.good : Qx → Prop
  | .none => True
  | .com n => 0 ≤ n ∧ n ≤ 59
  | .un k a => (k = 8 ∨ k = 12) ∧ a.good
  | .bi k x y => (k = 14 ∨ k = 15 ∨ k = 16) ∧ x.good ∧ y.good
def ary (k : Int) : Nat := if 14 ≤ k then 2 else if 7 ≤ k then 1 else 0
/-- a node moved by s nodes -/
def ndMv (s : Int) (n : Nd) : Nd := (n.1, n.2.1, (if 1 ≤ ary n.1 then n.2.2.1 + s else n.2.2.1), (if ary n.1 = 2 then n.2.2.2 + s else n.2.2.2))
theorem Qx.at_mv : ∀ (t : Qx) (b s : Nat), t.good → (t.at b).map (ndMv s) = t.at (b + s)
  | .none, b, s, _ => rfl
  | .com n, b, s, _ => rfl
  | .un k a, b, s, h => by
    obtain ⟨hk, ha⟩ := h
    simp only [Qx.at, List.map_append, List.map_cons, List.map_nil, Qx.at_mv a b s ha]
    congr 1
    have h1 : ary k = 1 := by unfold ary; rw [if_neg (by omega), if_pos (by omega)]
    unfold ndMv
    rw [if_pos (by rw [h1]; decide), if_neg (by rw [h1]; decide)]
    simp only [List.cons.injEq, Prod.mk.injEq, and_true, true_and]
    push_cast
    omega
  | .bi k x y, b, s, h => by
    obtain ⟨hk, hx, hy⟩ := h
    simp only [Qx.at, List.map_append, List.map_cons, List.map_nil, Qx.at_mv x b s hx, Qx.at_mv y (b + x.size) s hy]
    have h1 : ary k = 2 := by unfold ary; rw [if_pos (by omega)]
    have e : b + x.size + s = b + s + x.size := by omega
    rw [e]
    congr 1
    unfold ndMv
    rw [if_pos (by rw [h1]; decide), if_pos h1]
    simp only [List.cons.injEq, Prod.mk.injEq, and_true, true_and]
    push_cast
    exact ⟨by omega, by omega⟩

/-! ### ancestors -/
inductive Rch (l : List Cm) : Nat → Nat → Prop
  | refl (i : Nat) : Rch l i i
  | step {j i : Nat} {p : Int} (h : j < l.length) (hp : p ∈ l[j].1) (hr : Rch l p.toNat i) : Rch l j i
theorem Rch.trans {l : List Cm} {a b c : Nat} (h : Rch l a b) (g : Rch l b c) : Rch l a c := by
  induction h with
  | refl => exact g
  | step h hp _ ih => exact .step h hp (ih g)
/-- all parents lie ahead -/
def ParOk (l : List Cm) : Prop := ∀ j (h : j < l.length), ∀ p ∈ l[j].1, 0 ≤ p ∧ p < j
theorem parOk_of {l : List Cm} (h : hC l = 0) : ParOk l := fun j hj p hp => (cmC_good ((hC_all.1 h).2 j hj)).2.1 p hp
theorem Rch.le {l : List Cm} (hl : ParOk l) {a b : Nat} (h : Rch l a b) : b ≤ a := by
  induction h with
  | refl => exact Nat.le_refl _
  | step h hp _ ih => have := hl _ h _ hp; omega
theorem Rch.one {l : List Cm} {j : Nat} {p : Int} (h : j < l.length) (hp : p ∈ l[j].1) : Rch l j p.toNat := .step h hp (.refl _)
/-- above an ancestor that is another commit lies one of its children -/
theorem Rch.last {l : List Cm} {a b : Nat} (h : Rch l a b) (hne : a ≠ b) : ∃ j, ∃ hj : j < l.length, ∃ p ∈ l[j].1, p.toNat = b ∧ Rch l a j := by
  induction h with
  | refl => exact absurd rfl hne
  | @step j i p h hp hr ih =>
    by_cases e : p.toNat = i
    · exact ⟨j, h, p, hp, e, .refl _⟩
    · obtain ⟨j', hj', p', hp', e', hr'⟩ := ih e
      exact ⟨j', hj', p', hp', e', .step h hp hr'⟩

open Classical in
/-- the commits with a property, as a list of marks -/
noncomputable def setB (n : Nat) (P : Nat → Prop) : List Bool := (List.range n).map fun i => decide (P i)
theorem setB_len (n : Nat) (P : Nat → Prop) : (setB n P).length = n := by simp [setB]
theorem setB_at {n : Nat} {P : Nat → Prop} {i : Nat} (h : i < n) : (setB n P).getD i false = true ↔ P i := by
  unfold setB
  rw [List.getD_eq_getElem?_getD, List.getElem?_map, List.getElem?_range h]
  simp
theorem setB_eq {n : Nat} {P : Nat → Prop} {s : List Bool} (hl : s.length = n) (h : ∀ i, i < n → (s.getD i false = true ↔ P i)) : s = setB n P := by
  apply List.ext_getElem
  · rw [hl, setB_len]
  · intro i h1 h2
    have e1 : s.getD i false = s[i] := by rw [List.getD_eq_getElem?_getD, List.getElem?_eq_getElem h1]; rfl
    have e2 : (setB n P).getD i false = (setB n P)[i] := by rw [List.getD_eq_getElem?_getD, List.getElem?_eq_getElem h2]; rfl
    have h3 := h i (by omega)
    have h4 := setB_at (n := n) (P := P) (i := i) (by omega)
    rw [e1] at h3
    rw [e2] at h4
    rw [Bool.eq_iff_iff, h3, h4]
theorem setB_congr {n : Nat} {P Q : Nat → Prop} (h : ∀ i, i < n → (P i ↔ Q i)) : setB n P = setB n Q :=
  setB_eq (setB_len n P) fun i hi => (setB_at hi).trans (h i hi)
/-- the ancestors of commits -/
def Anc (l : List Cm) (ns : List Int) (i : Nat) : Prop := ∃ n ∈ ns, Rch l n.toNat i
noncomputable def ancB (l : List Cm) (ns : List Int) : List Bool := setB l.length (Anc l ns)

/-- while the marks go down: commits from k on have handed them to their parents, of commit k - 1 the first q parents have them -/
structure OfI (l : List Cm) (ns : List Int) (k : Nat) (s : List Bool) : Prop where
  len : s.length = l.length
  sound : ∀ i, i < l.length → s.getD i false = true → Anc l ns i
  start : ∀ n ∈ ns, s.getD n.toNat false = true
  closed : ∀ j (h : j < l.length), k ≤ j → s.getD j false = true → ∀ p ∈ l[j].1, s.getD p.toNat false = true
theorem getD_set (s : List Bool) (i j : Nat) (b : Bool) (h : i < s.length) : (s.set i b).getD j false = if i = j then b else s.getD j false := by
  rw [List.getD_eq_getElem?_getD, List.getElem?_set, List.getD_eq_getElem?_getD]
  by_cases e : i = j
  · subst e; rw [if_pos rfl, if_pos h, if_pos rfl]; rfl
  · rw [if_neg e, if_neg e]
structure OfJ (l : List Cm) (ns : List Int) (k q : Nat) (s : List Bool) : Prop where
  len : s.length = l.length
  sound : ∀ i, i < l.length → s.getD i false = true → Anc l ns i
  start : ∀ n ∈ ns, s.getD n.toNat false = true
  closed : ∀ j (h : j < l.length), k < j → s.getD j false = true → ∀ p ∈ l[j].1, s.getD p.toNat false = true
  part : ∀ (h : k < l.length), s.getD k false = true → ∀ r (hr : r < l[k].1.length), r < q → s.getD (l[k].1[r]).toNat false = true
theorem OfJ.of {l : List Cm} {ns : List Int} {k : Nat} {s : List Bool} (h : OfI l ns (k + 1) s) : OfJ l ns k 0 s :=
  ⟨h.len, h.sound, h.start, fun j hj hk => h.closed j hj hk, fun _ _ r _ hr => absurd hr (Nat.not_lt_zero r)⟩
theorem OfJ.done {l : List Cm} {ns : List Int} {k : Nat} (hk : k < l.length) {s : List Bool} (h : OfJ l ns k (l[k].1.length) s) : OfI l ns k s := by
  refine ⟨h.len, h.sound, h.start, fun j hj hkj hs p hp => ?_⟩
  rcases Nat.lt_or_ge k j with q | q
  · exact h.closed j hj q hs p hp
  · obtain rfl : j = k := by omega
    obtain ⟨r, hr, rfl⟩ := List.mem_iff_getElem.1 hp
    exact h.part hj hs r hr hr
theorem OfJ.next {l : List Cm} {ns : List Int} (hl : ParOk l) {k q : Nat} (hk : k < l.length) {s : List Bool} (h : OfJ l ns k q s) (hq : q < l[k].1.length) :
    OfJ l ns k (q + 1) (s.set (l[k].1[q]).toNat (s.getD (l[k].1[q]).toNat false || s.getD k false)) := by
  have hp := hl k hk _ (List.getElem_mem hq)
  have hlt : (l[k].1[q]).toNat < s.length := by rw [h.len]; omega
  have hg : ∀ j, (s.set (l[k].1[q]).toNat (s.getD (l[k].1[q]).toNat false || s.getD k false)).getD j false = if (l[k].1[q]).toNat = j then (s.getD (l[k].1[q]).toNat false || s.getD k false) else s.getD j false := fun j => getD_set _ _ _ _ hlt
  have mono : ∀ j, s.getD j false = true → (s.set (l[k].1[q]).toNat (s.getD (l[k].1[q]).toNat false || s.getD k false)).getD j false = true := by
    intro j hj
    rw [hg]
    split
    · rename_i e; rw [e, hj, Bool.true_or]
    · exact hj
  have same : ∀ j, k ≤ j → (s.set (l[k].1[q]).toNat (s.getD (l[k].1[q]).toNat false || s.getD k false)).getD j false = s.getD j false := by
    intro j hj
    rw [hg, if_neg (by omega)]
  refine ⟨by rw [List.length_set]; exact h.len, fun i hi hs => ?_, fun n hn => mono _ (h.start n hn), fun j hj hkj hs p hp' => ?_, fun _ hs r hr hrq => ?_⟩
  · rw [hg] at hs
    split at hs
    · rename_i e
      rcases Bool.or_eq_true_iff.1 hs with hs | hs
      · rw [e] at hs; exact h.sound i hi hs
      · obtain ⟨n, hn, hr⟩ := h.sound k hk hs
        exact ⟨n, hn, e ▸ hr.trans (Rch.one hk (List.getElem_mem hq))⟩
    · exact h.sound i hi hs
  · rw [same j (by omega)] at hs
    exact mono _ (h.closed j hj hkj hs p hp')
  · rw [same k (Nat.le_refl _)] at hs
    by_cases e : r = q
    · subst e
      rw [hg, if_pos rfl, hs, Bool.or_true]
    · exact mono _ (h.part hk hs r hr (by omega))
theorem OfI.all {l : List Cm} {ns : List Int} (hl : ParOk l) (hn : ∀ n ∈ ns, 0 ≤ n ∧ n < l.length) {s : List Bool} (h : OfI l ns 0 s) : s = ancB l ns := by
  refine setB_eq h.len fun i hi => ⟨h.sound i hi, ?_⟩
  rintro ⟨n, hm, hr⟩
  have key : ∀ a b, Rch l a b → s.getD a false = true → s.getD b false = true := by
    intro a b hab
    induction hab with
    | refl => exact id
    | step hj hp _ ih => exact fun hs => ih (h.closed _ hj (Nat.zero_le _) hs _ hp)
  exact key _ _ hr (h.start n hm)
theorem OfI.init {l : List Cm} {ns : List Int} {s : List Bool} (h1 : s.length = l.length) (h2 : ∀ i, i < l.length → (s.getD i false = true ↔ ∃ n ∈ ns, n.toNat = i)) (hn : ∀ n ∈ ns, 0 ≤ n ∧ n < l.length) : OfI l ns l.length s :=
  ⟨h1, fun i hi hs => by obtain ⟨n, hm, e⟩ := (h2 i hi).1 hs; exact ⟨n, hm, e ▸ .refl _⟩, fun n hm => (h2 _ (by have := hn n hm; omega)).2 ⟨n, hm, rfl⟩, fun j hj hk => absurd hk (by omega)⟩
end Go.Proofs.Ytgdlbpihkodeoaa
