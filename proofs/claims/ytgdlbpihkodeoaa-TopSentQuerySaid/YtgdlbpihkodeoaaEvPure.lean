/- What queries select, as plain data. No program in sight. -/
import Derived.Test.YtgdlbpihkodeoaaOfPure
namespace Go.Proofs.Ytgdlbpihkodeoaa
open Go.RowKit

def tabB (f : Nat → Bool) (n : Nat) : List Bool := (List.range n).map f
theorem tabB_len (f : Nat → Bool) (n : Nat) : (tabB f n).length = n := by simp [tabB]
theorem tabB_get (f : Nat → Bool) {n i : Nat} (h : i < (tabB f n).length) : (tabB f n)[i] = f i := by simp [tabB]
theorem tabB_at (f : Nat → Bool) {n i : Nat} (h : i < n) : (tabB f n).getD i false = f i := by
  unfold tabB
  rw [List.getD_eq_getElem?_getD, List.getElem?_map, List.getElem?_range h]
  rfl
theorem tabB_congr {f g : Nat → Bool} {n : Nat} (h : ∀ i, i < n → f i = g i) : tabB f n = tabB g n := by
  unfold tabB
  apply List.map_congr_left
  intro i hi
  exact h i (List.mem_range.1 hi)
theorem tabB_of (s : List Bool) : tabB (fun i => s.getD i false) s.length = s := by
  apply List.ext_getElem
  · rw [tabB_len]
  · intro i h1 h2
    rw [tabB_get, List.getD_eq_getElem?_getD, List.getElem?_eq_getElem h2]
    rfl
/-- the first k entries by f, the others by g -/
def mixB (g f : Nat → Bool) (n k : Nat) : List Bool := tabB (fun i => if i < k then f i else g i) n
theorem mixB_len (g f : Nat → Bool) (n k : Nat) : (mixB g f n k).length = n := tabB_len _ _
theorem mixB_0 (g f : Nat → Bool) (n : Nat) : mixB g f n 0 = tabB g n := tabB_congr fun i _ => if_neg (Nat.not_lt_zero i)
theorem mixB_n (g f : Nat → Bool) (n : Nat) : mixB g f n n = tabB f n := tabB_congr fun i h => if_pos h
theorem mixB_set (g f : Nat → Bool) {n k : Nat} : (mixB g f n k).set k (f k) = mixB g f n (k + 1) := by
  apply List.ext_getElem
  · rw [List.length_set, mixB_len, mixB_len]
  · intro i h1 h2
    rw [List.getElem_set]
    have e1 : (mixB g f n (k + 1))[i] = if i < k + 1 then f i else g i := tabB_get _ h2
    have e2 : ∀ h, (mixB g f n k)[i]'h = if i < k then f i else g i := fun h => tabB_get _ h
    rw [e1]
    simp only [e2]
    by_cases e : k = i
    · subst e
      rw [if_pos rfl, if_pos (Nat.lt_succ_self k)]
    · rw [if_neg e]
      by_cases q : i < k
      · rw [if_pos q, if_pos (by omega)]
      · rw [if_neg q, if_neg (by omega)]
theorem rep_tab (n : Nat) : List.replicate n false = tabB (fun _ => false) n := by
  apply List.ext_getElem
  · rw [tabB_len, List.length_replicate]
  · intro i h1 h2
    rw [List.getElem_replicate, tabB_get]

def minF (a b : List Bool) (i : Nat) : Bool := a.getD i false && !b.getD i false
def uniF (a b : List Bool) (i : Nat) : Bool := a.getD i false || b.getD i false
def botF (a b : List Bool) (i : Nat) : Bool := a.getD i false && b.getD i false
def minB (a b : List Bool) : List Bool := tabB (minF a b) a.length
def uniB (a b : List Bool) : List Bool := tabB (uniF a b) a.length
def botB (a b : List Bool) : List Bool := tabB (botF a b) a.length

/-- the first k commits that are selected -/
def selK (f : Nat → Bool) : Nat → List Int
  | 0 => []
  | k + 1 => if f k then selK f k ++ [(k : Int)] else selK f k
def selI (s : List Bool) : List Int := selK (fun i => s.getD i false) s.length
theorem selK_mem (f : Nat → Bool) : ∀ (k : Nat) (n : Int), n ∈ selK f k ↔ ∃ i, i < k ∧ f i = true ∧ n = (i : Int)
  | 0, n => by simp [selK]
  | k + 1, n => by
    unfold selK
    constructor
    · intro h
      split at h
      · rename_i hk
        rcases List.mem_append.1 h with h | h
        · obtain ⟨i, h1, h2, h3⟩ := (selK_mem f k n).1 h
          exact ⟨i, by omega, h2, h3⟩
        · simp at h
          exact ⟨k, by omega, hk, h⟩
      · obtain ⟨i, h1, h2, h3⟩ := (selK_mem f k n).1 h
        exact ⟨i, by omega, h2, h3⟩
    · rintro ⟨i, h1, h2, h3⟩
      by_cases e : i = k
      · subst e
        rw [if_pos h2]
        simp [h3]
      · have : n ∈ selK f k := (selK_mem f k n).2 ⟨i, by omega, h2, h3⟩
        split
        · exact List.mem_append_left _ this
        · exact this
theorem selK_len (f : Nat → Bool) : ∀ k, (selK f k).length ≤ k
  | 0 => Nat.le_refl 0
  | k + 1 => by
    have := selK_len f k
    unfold selK
    split
    · rw [List.length_append, List.length_singleton]; omega
    · omega
theorem selK_congr {f g : Nat → Bool} : ∀ k, (∀ i, i < k → f i = g i) → selK f k = selK g k
  | 0, _ => rfl
  | k + 1, h => by
    unfold selK
    rw [selK_congr k (fun i hi => h i (by omega)), h k (by omega)]
theorem selI_mem {s : List Bool} {n : Int} : n ∈ selI s ↔ ∃ i, i < s.length ∧ s.getD i false = true ∧ n = (i : Int) := selK_mem _ _ _

/-- marks that go to the parents -/
def upR (b : Bool) (ps : List Int) (o : List Bool) : List Bool := ps.foldl (fun o p => o.set p.toNat (o.getD p.toNat false || b)) o
theorem upR_len (b : Bool) : ∀ (ps : List Int) (s : List Bool), (upR b ps s).length = s.length
  | [], s => rfl
  | p :: ps, s => by
    show (upR b ps (s.set p.toNat (s.getD p.toNat false || b))).length = _
    rw [upR_len b ps, List.length_set]
theorem upR_take {b : Bool} {ps : List Int} {s : List Bool} {q : Nat} (hq : q < ps.length) : upR b (ps.take (q + 1)) s = (upR b (ps.take q) s).set ps[q].toNat ((upR b (ps.take q) s).getD ps[q].toNat false || b) := by
  unfold upR
  rw [List.take_add_one, List.getElem?_eq_getElem hq, Option.toList_some, List.foldl_append]
  rfl
theorem upR_at (b : Bool) : ∀ (ps : List Int) (s : List Bool) (i : Nat), (∀ p ∈ ps, 0 ≤ p ∧ p < s.length) → ((upR b ps s).getD i false = true ↔ s.getD i false = true ∨ (b = true ∧ ∃ p ∈ ps, p.toNat = i))
  | [], s, i, _ => by simp [upR]
  | p :: ps, s, i, h => by
    show (upR b ps (s.set p.toNat (s.getD p.toNat false || b))).getD i false = true ↔ _
    have hp := h p (by simp)
    rw [upR_at b ps _ i (fun m hm => by rw [List.length_set]; exact h m (by simp [hm])), getD_set s _ _ _ (by omega)]
    by_cases e : p.toNat = i
    · rw [if_pos e, e, Bool.or_eq_true]
      constructor
      · rintro ((q | q) | ⟨q, m, hm, q'⟩)
        · exact .inl q
        · exact .inr ⟨q, p, by simp, e⟩
        · exact .inr ⟨q, m, by simp [hm], q'⟩
      · rintro (q | ⟨q, -⟩)
        · exact .inl (.inl q)
        · exact .inl (.inr q)
    · rw [if_neg e]
      constructor
      · rintro (q | ⟨q, m, hm, q'⟩)
        · exact .inl q
        · exact .inr ⟨q, m, by simp [hm], q'⟩
      · rintro (q | ⟨q, m, hm, q'⟩)
        · exact .inl q
        · rcases List.mem_cons.1 hm with rfl | hm
          · exact absurd q' e
          · exact .inr ⟨q, m, hm, q'⟩
/-- the parents of the selected ones of the first k commits -/
def rlS (l : List Cm) (s : List Bool) : Nat → List Bool
  | 0 => List.replicate l.length false
  | k + 1 => upR (s.getD k false) (parO l k) (rlS l s k)
theorem rlS_len (l : List Cm) (s : List Bool) : ∀ k, (rlS l s k).length = l.length
  | 0 => by unfold rlS; rw [List.length_replicate]
  | k + 1 => by unfold rlS; rw [upR_len, rlS_len l s k]
theorem rlS_at {l : List Cm} (hl : ParOk l) {s : List Bool} : ∀ k, k ≤ l.length → ∀ j, ((rlS l s k).getD j false = true ↔ ∃ i, i < k ∧ s.getD i false = true ∧ ∃ p ∈ parO l i, p.toNat = j)
  | 0, _, j => by
    unfold rlS
    constructor
    · intro h
      rw [List.getD_eq_getElem?_getD, List.getElem?_replicate] at h
      split at h <;> cases h
    · rintro ⟨i, h, _⟩; omega
  | k + 1, hk, j => by
    unfold rlS
    rw [upR_at _ _ _ j (fun p hp => by rw [rlS_len]; rw [parO_of (by omega)] at hp; have := hl k (by omega) p hp; omega), rlS_at hl k (by omega) j]
    constructor
    · rintro (⟨i, h1, h2⟩ | ⟨h1, h2⟩)
      · exact ⟨i, by omega, h2⟩
      · exact ⟨k, by omega, h1, h2⟩
    · rintro ⟨i, h1, h2, h3⟩
      by_cases e : i = k
      · subst e; exact .inr ⟨h2, h3⟩
      · exact .inl ⟨i, by omega, h2, h3⟩
def relB (l : List Cm) (s : List Bool) : List Bool := rlS l s l.length
noncomputable def ancS (l : List Cm) (s : List Bool) : List Bool := ancB l (selI s)
noncomputable def hdS (l : List Cm) (s : List Bool) : List Bool := minB s (ancB l (selI (relB l s)))
noncomputable def unB (l : List Cm) (k : Int) (s : List Bool) : List Bool := if k = 8 then ancS l s else hdS l s
def biF (k : Int) (a b : List Bool) : Nat → Bool := if k = 14 then uniF a b else if k = 15 then botF a b else minF a b
def biB (k : Int) (a b : List Bool) : List Bool := tabB (biF k a b) a.length
def lfF (n : Nd) (i : Nat) : Bool := decide (n.1 = 3) && decide ((i : Int) = n.2.1)
/-- what a node selects -/
noncomputable def evN (l : List Cm) (ss : List (List Bool)) (n : Nd) : List Bool :=
  if ary n.1 = 0 then tabB (lfF n) l.length else if ary n.1 = 1 then unB l n.1 (ss.getD n.2.2.1.toNat []) else biB n.1 (ss.getD n.2.2.1.toNat []) (ss.getD n.2.2.2.toNat [])
noncomputable def evQ (l : List Cm) (ss : List (List Bool)) (ns : List Nd) : List (List Bool) := ns.foldl (fun ss n => ss ++ [evN l ss n]) ss
theorem evQ_take {l : List Cm} {ss : List (List Bool)} {ns : List Nd} {q : Nat} (hq : q < ns.length) : evQ l ss (ns.take (q + 1)) = evQ l ss (ns.take q) ++ [evN l (evQ l ss (ns.take q)) ns[q]] := by
  unfold evQ
  rw [List.take_add_one, List.getElem?_eq_getElem hq, Option.toList_some, List.foldl_append]
  rfl
theorem evQ_app (l : List Cm) (ss : List (List Bool)) (a b : List Nd) : evQ l ss (a ++ b) = evQ l (evQ l ss a) b := List.foldl_append
theorem evQ_len (l : List Cm) : ∀ (ns : List Nd) (ss : List (List Bool)), (evQ l ss ns).length = ss.length + ns.length
  | [], ss => rfl
  | n :: ns, ss => by
    show (evQ l (ss ++ [evN l ss n]) ns).length = _
    rw [evQ_len l ns, List.length_append, List.length_singleton, List.length_cons]; omega

noncomputable def Qx.ev (l : List Cm) : Qx → List Bool
  | .none => tabB (fun _ => false) l.length
  | .com n => tabB (fun i => decide ((i : Int) = n)) l.length
  | .un k a => unB l k (a.ev l)
  | .bi k x y => biB k (x.ev l) (y.ev l)
noncomputable def Qx.all (l : List Cm) : Qx → List (List Bool)
  | .none => [Qx.ev l .none]
  | .com n => [Qx.ev l (.com n)]
  | .un k a => a.all l ++ [unB l k (a.ev l)]
  | .bi k x y => x.all l ++ y.all l ++ [biB k (x.ev l) (y.ev l)]
theorem Qx.all_len (l : List Cm) : ∀ t : Qx, (t.all l).length = t.size
  | .none => rfl
  | .com _ => rfl
  | .un k a => by simp [Qx.all, Qx.size, Qx.all_len l a]
  | .bi k x y => by simp [Qx.all, Qx.size, Qx.all_len l x, Qx.all_len l y]; omega
theorem getD_app {α : Type} {d : α} {a b : List α} {i : Nat} (h : a.length ≤ i) : (a ++ b).getD i d = b.getD (i - a.length) d := by
  rw [List.getD_eq_getElem?_getD, List.getElem?_append_right h, List.getD_eq_getElem?_getD]
theorem getD_app_l {α : Type} {d : α} {a b : List α} {i : Nat} (h : i < a.length) : (a ++ b).getD i d = a.getD i d := by
  rw [List.getD_eq_getElem?_getD, List.getElem?_append_left h, List.getD_eq_getElem?_getD]
theorem Qx.all_last (l : List Cm) : ∀ (t : Qx), (t.all l).getD (t.size - 1) [] = t.ev l
  | .none => rfl
  | .com _ => rfl
  | .un k a => by
    have := Qx.all_len l a
    simp only [Qx.all, Qx.size]
    rw [getD_app (by omega), show a.size + 1 - 1 - (a.all l).length = 0 by omega]
    rfl
  | .bi k x y => by
    have h1 := Qx.all_len l x
    have h2 := Qx.all_len l y
    simp only [Qx.all, Qx.size]
    rw [getD_app (by rw [List.length_append]; omega), List.length_append, show x.size + y.size + 1 - 1 - ((x.all l).length + (y.all l).length) = 0 by omega]
    rfl
theorem ary_un {k : Int} (h : k = 8 ∨ k = 12) : ary k = 1 := by unfold ary; rw [if_neg (by omega), if_pos (by omega)]
theorem ary_bi {k : Int} (h : k = 14 ∨ k = 15 ∨ k = 16) : ary k = 2 := by unfold ary; rw [if_pos (by omega)]
/-- a query's nodes, behind others, give its sets, behind theirs -/
theorem Qx.evQ_at (l : List Cm) : ∀ (t : Qx) (ss : List (List Bool)), t.good → evQ l ss (t.at ss.length) = ss ++ t.all l
  | .none, ss, _ => by
    show ss ++ [evN l ss (2, 0, 0, 0)] = _
    unfold evN
    rw [if_pos (by decide)]
    congr 2
  | .com n, ss, _ => by
    show ss ++ [evN l ss (3, n, 0, 0)] = _
    unfold evN
    rw [if_pos (show ary (3 : Int) = 0 by decide)]
    congr 2
  | .un k a, ss, h => by
    obtain ⟨hk, ha⟩ := h
    have h1 := Qx.all_len l a
    have hpos := a.pos
    simp only [Qx.at]
    rw [evQ_app, Qx.evQ_at l a ss ha]
    show (ss ++ a.all l) ++ [evN l (ss ++ a.all l) (k, 0, (ss.length : Int) + a.size - 1, 0)] = _
    have e : evN l (ss ++ a.all l) (k, 0, (ss.length : Int) + a.size - 1, 0) = unB l k (a.ev l) := by
      unfold evN
      dsimp only
      rw [ary_un hk, if_neg (by decide), if_pos rfl, show ((ss.length : Int) + a.size - 1).toNat = ss.length + (a.size - 1) by omega, getD_app (by omega), Nat.add_sub_cancel_left, Qx.all_last]
    rw [e, List.append_assoc]
    rfl
  | .bi k x y, ss, h => by
    obtain ⟨hk, hx, hy⟩ := h
    have h1 := Qx.all_len l x
    have h2 := Qx.all_len l y
    have p1 := x.pos
    have p2 := y.pos
    simp only [Qx.at]
    have e1 := Qx.evQ_at l x ss hx
    have e2 := Qx.evQ_at l y (ss ++ x.all l) hy
    rw [List.length_append, h1] at e2
    rw [evQ_app, evQ_app, e1, e2]
    show (ss ++ x.all l ++ y.all l) ++ [evN l (ss ++ x.all l ++ y.all l) (k, 0, (ss.length : Int) + x.size - 1, (ss.length : Int) + x.size + y.size - 1)] = _
    have e : evN l (ss ++ x.all l ++ y.all l) (k, 0, (ss.length : Int) + x.size - 1, (ss.length : Int) + x.size + y.size - 1) = biB k (x.ev l) (y.ev l) := by
      unfold evN
      dsimp only
      rw [ary_bi hk, if_neg (by decide), if_neg (by decide), show ((ss.length : Int) + x.size - 1).toNat = ss.length + (x.size - 1) by omega, show ((ss.length : Int) + x.size + y.size - 1).toNat = (ss ++ x.all l).length + (y.size - 1) by rw [List.length_append]; omega, getD_app_l (a := ss ++ x.all l) (i := ss.length + (x.size - 1)) (by rw [List.length_append]; omega), getD_app (a := ss ++ x.all l) (by omega), getD_app (a := ss) (by omega), Nat.add_sub_cancel_left, Nat.add_sub_cancel_left, Qx.all_last, Qx.all_last]
    rw [e]
    simp only [Qx.all, List.append_assoc]
theorem minB_len (a b : List Bool) : (minB a b).length = a.length := tabB_len _ _
theorem ancB_len (l : List Cm) (ns : List Int) : (ancB l ns).length = l.length := setB_len _ _
theorem unB_len {l : List Cm} {k : Int} {s : List Bool} (h : s.length = l.length) : (unB l k s).length = l.length := by
  unfold unB
  split
  · exact ancB_len _ _
  · unfold hdS; rw [minB_len, h]
theorem Qx.ev_len (l : List Cm) : ∀ t : Qx, (t.ev l).length = l.length
  | .none => tabB_len _ _
  | .com _ => tabB_len _ _
  | .un k a => unB_len (Qx.ev_len l a)
  | .bi k x y => by unfold Qx.ev biB; rw [tabB_len, Qx.ev_len l x]
end Go.Proofs.Ytgdlbpihkodeoaa
