/- The order of commits (every one behind its children), as plain data. -/
import Derived.Test.YtgdlbpihkodeoaaBasPure
namespace Go.Proofs.Ytgdlbpihkodeoaa
open Go.RowKit

theorem nodup_sub : ∀ (a b : List Int), a.Nodup → (∀ x ∈ a, x ∈ b) → a.length ≤ b.length
  | [], b, _, _ => Nat.zero_le _
  | x :: a, b, h, hs => by
    obtain ⟨h1, h2⟩ := List.nodup_cons.1 h
    have hx := hs x (by simp)
    have := nodup_sub a (b.erase x) h2 fun y hy => (List.mem_erase_of_ne (show y ≠ x from fun e => h1 (e ▸ hy))).2 (hs y (by simp [hy]))
    rw [List.length_erase_of_mem hx] at this
    have hpos : 0 < b.length := List.length_pos_of_mem hx
    rw [List.length_cons]
    omega
def numS (n : Nat) : List Int := (List.range n).map fun j : Nat => (j : Int)
theorem numS_len (n : Nat) : (numS n).length = n := by simp [numS]
theorem numS_mem {n : Nat} {x : Int} : x ∈ numS n ↔ 0 ≤ x ∧ x < n := by
  unfold numS
  rw [List.mem_map]
  constructor
  · rintro ⟨j, hj, rfl⟩; have := List.mem_range.1 hj; omega
  · rintro ⟨h0, h1⟩; exact ⟨x.toNat, List.mem_range.2 (by omega), by omega⟩
theorem numS_nd (n : Nat) : (numS n).Nodup := by
  unfold numS
  rw [List.nodup_iff_pairwise_ne, List.pairwise_map]
  exact List.Pairwise.imp (fun h q => h (by omega)) (List.nodup_iff_pairwise_ne.1 List.nodup_range)
/-! ### how often numbers occur -/
def cF (n : Nat) (F : List Int) : List Int := tabA (fun j => (F.count (j : Int) : Int)) n
theorem cF_len (n : Nat) (F : List Int) : (cF n F).length = n := tabA_len _ _
theorem cF_at {n : Nat} (F : List Int) {j : Nat} (h : j < n) : (cF n F).getD j 0 = (F.count (j : Int) : Int) := tabA_at _ _ h
theorem cF_0 (n : Nat) : List.replicate n (0 : Int) = cF n [] := rep_tabA _ _
theorem cF_app {n : Nat} {F : List Int} {p : Int} (h0 : 0 ≤ p) (h1 : p < n) : (cF n F).set p.toNat ((cF n F).getD p.toNat 0 + 1) = cF n (F ++ [p]) := by
  rw [cF_at F (by omega)]
  apply List.ext_getElem
  · rw [List.length_set, cF_len, cF_len]
  · intro i i1 i2
    rw [List.length_set] at i1
    have e1 : (cF n (F ++ [p]))[i] = (((F ++ [p]).count (i : Int) : Nat) : Int) := tabA_get _ i2
    have e2 : ∀ h, (cF n F)[i]'h = ((F.count (i : Int) : Nat) : Int) := fun h => tabA_get _ h
    rw [e1, List.getElem_set, List.count_append, List.count_singleton]
    simp only [e2]
    by_cases e : p.toNat = i
    · have e3 : p = (i : Int) := by omega
      rw [if_pos e, e3]
      simp
    · have e3 : (p == (i : Int)) = false := by rw [beq_eq_false_iff_ne]; omega
      rw [if_neg e, e3]
      simp
/-- the parents of the first k commits -/
def flP (l : List Cm) (k : Nat) : List Int := (l.take k).flatMap (·.1)
theorem flP_next {l : List Cm} {k : Nat} (h : k < l.length) : flP l (k + 1) = flP l k ++ l[k].1 := by
  unfold flP
  rw [List.take_add_one, List.getElem?_eq_getElem h, Option.toList_some, List.flatMap_append]
  simp
theorem flP_len {l : List Cm} (hb : ∀ c ∈ l, c.1.length ≤ 3) : ∀ k, k ≤ l.length → (flP l k).length ≤ 3 * k
  | 0, _ => Nat.le_refl 0
  | k + 1, h => by
    rw [flP_next (by omega), List.length_append]
    have := flP_len hb k (by omega)
    have := hb l[k] (List.getElem_mem _)
    omega

/-! ### children that are not out yet -/
def inO (o : List Int) (i : Nat) : Bool := o.contains (i : Int)
theorem inO_iff {o : List Int} {i : Nat} : inO o i = true ↔ (i : Int) ∈ o := by unfold inO; simp
def kids (l : List Cm) (o : List Int) : List Int := ((List.range l.length).filter fun i => !inO o i).flatMap (parO l)
theorem count_flat {α : Type} (f : α → List Int) (j : Int) : ∀ (L : List α), (L.flatMap f).count j = (L.map fun a => (f a).count j).sum
  | [] => rfl
  | a :: L => by rw [List.flatMap_cons, List.count_append, count_flat f j L]; rfl
theorem sum_out {L : List Nat} (g : Nat → Nat) {b : Nat} (hn : L.Nodup) (hb : b ∈ L) : (L.map g).sum = g b + ((L.filter fun i => !decide (i = b)).map g).sum := by
  induction L with
  | nil => cases hb
  | cons a L ih =>
    obtain ⟨h1, h2⟩ := List.nodup_cons.1 hn
    by_cases e : a = b
    · subst e
      have e2 : L.filter (fun i => !decide (i = a)) = L := List.filter_eq_self.2 fun i hi => by
        have : i ≠ a := fun q => h1 (q ▸ hi)
        simp [this]
      rw [List.filter_cons_of_neg (by simp), e2]
      simp
    · have hb2 : b ∈ L := (List.mem_cons.1 hb).resolve_left (fun q => e q.symm)
      rw [List.filter_cons_of_pos (by simp [e])]
      simp only [List.map_cons, List.sum_cons]
      rw [ih h2 hb2]
      omega
theorem kids_step {l : List Cm} {o : List Int} {b : Nat} (hb : b < l.length) (hbo : inO o b = false) (j : Int) : (kids l o).count j = (parO l b).count j + (kids l (o ++ [(b : Int)])).count j := by
  unfold kids
  rw [count_flat, count_flat]
  have hn : ((List.range l.length).filter fun i => !inO o i).Nodup := List.Nodup.sublist List.filter_sublist List.nodup_range
  rw [sum_out _ hn (List.mem_filter.2 ⟨List.mem_range.2 hb, by rw [hbo]; rfl⟩)]
  congr 3
  rw [List.filter_filter]
  apply List.filter_congr
  intro i _
  rw [Bool.eq_iff_iff]
  simp only [Bool.and_eq_true, Bool.not_eq_true', decide_eq_false_iff_not, ← Bool.not_eq_true, inO_iff, List.mem_append, List.mem_singleton, decide_eq_true_eq, not_or]
  constructor
  · rintro ⟨h1, h2⟩; exact ⟨h2, by omega⟩
  · rintro ⟨h1, h2⟩; exact ⟨by omega, h1⟩
theorem kids_nil (l : List Cm) : kids l [] = flP l l.length := by
  have e : (List.range l.length).filter (fun i => !inO [] i) = List.range l.length := List.filter_eq_self.2 fun i _ => rfl
  unfold kids
  rw [e]
  have key : ∀ k, k ≤ l.length → (List.range k).flatMap (parO l) = flP l k := by
    intro k
    induction k with
    | zero => intro _; rfl
    | succ k ih =>
      intro h
      rw [List.range_succ, List.flatMap_append, ih (by omega), flP_next (by omega)]
      simp [parO_of (show k < l.length by omega)]
  exact key _ (Nat.le_refl _)
/-- what is left to count, while the children's counter of commit b's parents D is taken down -/
def lfG (l : List Cm) (o D : List Int) (j : Nat) : Int := if inO o j then -1 else ((kids l o).count (j : Int) : Int) + (D.count (j : Int) : Int)
def lfT (l : List Cm) (o D : List Int) : List Int := tabA (lfG l o D) l.length
theorem lfT_len (l : List Cm) (o D : List Int) : (lfT l o D).length = l.length := tabA_len _ _
theorem lfT_at {l : List Cm} (o D : List Int) {j : Nat} (h : j < l.length) : (lfT l o D).getD j 0 = lfG l o D j := tabA_at _ _ h
theorem lfT_0 (l : List Cm) : cF l.length (flP l l.length) = lfT l [] [] := by
  apply tabA_congr
  intro j _
  unfold lfG
  rw [kids_nil]
  show _ = if false = true then _ else _
  rw [if_neg (by decide)]
  simp
theorem lfT_out {l : List Cm} {o : List Int} {b : Nat} (hb : b < l.length) (hbo : inO o b = false) : (lfT l o []).set b (-1) = lfT l (o ++ [(b : Int)]) (parO l b) := by
  apply List.ext_getElem
  · rw [List.length_set, lfT_len, lfT_len]
  · intro i i1 i2
    rw [List.length_set, lfT_len] at i1
    have e1 : (lfT l (o ++ [(b : Int)]) (parO l b))[i] = lfG l (o ++ [(b : Int)]) (parO l b) i := tabA_get _ i2
    have e2 : ∀ h, (lfT l o [])[i]'h = lfG l o [] i := fun h => tabA_get _ h
    rw [e1, List.getElem_set]
    simp only [e2]
    unfold lfG
    by_cases e : b = i
    · subst e
      rw [if_pos rfl, if_pos (inO_iff.2 (by simp))]
    · rw [if_neg e]
      have e3 : inO (o ++ [(b : Int)]) i = inO o i := by
        rw [Bool.eq_iff_iff, inO_iff, inO_iff, List.mem_append, List.mem_singleton]
        constructor
        · rintro (h | h)
          · exact h
          · omega
        · exact .inl
      rw [e3]
      split
      · rfl
      · rw [kids_step hb hbo]
        have : (([] : List Int).count (i : Int)) = 0 := rfl
        omega
theorem lfT_dec {l : List Cm} {o D : List Int} {p : Int} (h0 : 0 ≤ p) (h1 : p < l.length) (hpo : inO o p.toNat = false) : (lfT l o (p :: D)).set p.toNat ((lfT l o (p :: D)).getD p.toNat 0 - 1) = lfT l o D := by
  rw [lfT_at _ _ (by omega)]
  apply List.ext_getElem
  · rw [List.length_set, lfT_len, lfT_len]
  · intro i i1 i2
    have e1 : (lfT l o D)[i] = lfG l o D i := tabA_get _ i2
    have e2 : ∀ h, (lfT l o (p :: D))[i]'h = lfG l o (p :: D) i := fun h => tabA_get _ h
    rw [e1, List.getElem_set]
    simp only [e2]
    unfold lfG
    by_cases e : p.toNat = i
    · subst e
      rw [if_pos rfl, hpo, if_neg (by decide), if_neg (by decide)]
      have : ((p.toNat : Nat) : Int) = p := by omega
      rw [show ((p.toNat : Nat) : Int) = p from this, List.count_cons_self]
      omega
    · rw [if_neg e]
      split
      · rfl
      · have : p ≠ (i : Int) := by omega
        rw [List.count_cons_of_ne this]

theorem flat_len {α : Type} {f : α → List Int} : ∀ (L : List α), (∀ a ∈ L, (f a).length ≤ 3) → (L.flatMap f).length ≤ 3 * L.length
  | [], _ => Nat.zero_le _
  | a :: L, h => by
    rw [List.flatMap_cons, List.length_append, List.length_cons]
    have := h a (by simp)
    have := flat_len L fun b hb => h b (by simp [hb])
    omega
theorem kids_len {l : List Cm} (hb : ∀ c ∈ l, c.1.length ≤ 3) (o : List Int) : (kids l o).length ≤ 3 * l.length := by
  unfold kids
  have h1 := flat_len (f := parO l) ((List.range l.length).filter fun i => !inO o i) fun i hi => by
    have := List.mem_range.1 (List.mem_filter.1 hi).1
    rw [parO_of this]
    exact hb _ (List.getElem_mem _)
  have h2 : ((List.range l.length).filter fun i => !inO o i).length ≤ (List.range l.length).length := List.length_filter_le _ _
  rw [List.length_range] at h2
  omega
theorem lfG_bd {l : List Cm} (hb : ∀ c ∈ l, c.1.length ≤ 3) (o D : List Int) (j : Nat) : -1 ≤ lfG l o D j ∧ lfG l o D j ≤ 3 * l.length + D.length := by
  have h1 := kids_len hb o
  have h2 : (kids l o).count (j : Int) ≤ (kids l o).length := List.count_le_length
  have h3 : D.count (j : Int) ≤ D.length := List.count_le_length
  unfold lfG
  split <;> omega
/-! ### the commit that comes next -/
def tmO (l : List Cm) (k : Int) : Int := (l.getD k.toNat tCm.dflt).2.2.1
def bsK (l : List Cm) (s : List Int) : Nat → Int
  | 0 => -1
  | k + 1 => if s.getD k 0 = 0 ∧ (bsK l s k < 0 ∨ tmO l (bsK l s k) ≤ tmO l (k : Int)) then (k : Int) else bsK l s k
theorem bsK_cases (l : List Cm) (s : List Int) : ∀ k, bsK l s k = -1 ∨ (0 ≤ bsK l s k ∧ bsK l s k < k ∧ s.getD (bsK l s k).toNat 0 = 0)
  | 0 => .inl rfl
  | k + 1 => by
    unfold bsK
    split
    · rename_i h
      exact .inr ⟨by omega, by omega, by rw [Int.toNat_natCast]; exact h.1⟩
    · rcases bsK_cases l s k with h | ⟨h1, h2, h3⟩
      · exact .inl h
      · exact .inr ⟨h1, by omega, h3⟩
theorem bsK_some (l : List Cm) (s : List Int) : ∀ k j, j < k → s.getD j 0 = 0 → 0 ≤ bsK l s k
  | 0, j, h, _ => absurd h (Nat.not_lt_zero j)
  | k + 1, j, h, hj => by
    unfold bsK
    split
    · omega
    · rename_i hn
      by_cases e : j = k
      · subst e
        rcases Classical.em (0 ≤ bsK l s j) with q | q
        · exact q
        · exact absurd ⟨hj, .inl (by omega)⟩ hn
      · exact bsK_some l s k j (by omega) hj
/-- the order so far -/
structure OrI (l : List Cm) (o : List Int) : Prop where
  nd : o.Nodup
  rng : ∀ x ∈ o, 0 ≤ x ∧ x < l.length
  up : ∀ i (h : i < l.length), ∀ p ∈ l[i].1, p ∈ o → (i : Int) ∈ o
theorem OrI.nil (l : List Cm) : OrI l [] := ⟨List.nodup_nil, fun x h => (by cases h), fun i h p hp hq => (by cases hq)⟩
/-- as long as commits are left, one has no children left -/
theorem OrI.more {l : List Cm} (hl : ParOk l) {o : List Int} (h : OrI l o) (hlt : o.length < l.length) : ∃ j, j < l.length ∧ (lfT l o []).getD j 0 = 0 := by
  have hex : ∃ j, j < l.length ∧ ¬ (j : Int) ∈ o := Classical.byContradiction fun q => by
    have hall : ∀ j, j < l.length → (j : Int) ∈ o := fun j hj => Classical.byContradiction fun q2 => q ⟨j, hj, q2⟩
    have hsub := nodup_sub (numS l.length) o (numS_nd _) fun x hx => by
      obtain ⟨h0, h1⟩ := numS_mem.1 hx
      have := hall x.toNat (by omega)
      rwa [show ((x.toNat : Nat) : Int) = x by omega] at this
    rw [numS_len] at hsub
    omega
  have hmax : ∀ d j, l.length - j = d → j < l.length → ¬ (j : Int) ∈ o → ∃ m, m < l.length ∧ ¬ (m : Int) ∈ o ∧ ∀ i, m < i → i < l.length → (i : Int) ∈ o := by
    intro d
    induction d using Nat.strongRecOn with
    | ind d ih =>
      intro j hd hj hjo
      by_cases q : ∀ i, j < i → i < l.length → (i : Int) ∈ o
      · exact ⟨j, hj, hjo, q⟩
      · obtain ⟨i, hi⟩ := Classical.not_forall.1 q
        have h1 : j < i := Classical.byContradiction fun z => hi (fun a => absurd a z)
        have h2 : i < l.length := Classical.byContradiction fun z => hi (fun _ b => absurd b z)
        have h3 : ¬ (i : Int) ∈ o := fun z => hi (fun _ _ => z)
        exact ih (l.length - i) (by omega) i rfl h2 h3
  obtain ⟨j0, hj0, hj1⟩ := hex
  obtain ⟨m, hm, hmo, hab⟩ := hmax _ j0 rfl hj0 hj1
  refine ⟨m, hm, ?_⟩
  rw [lfT_at _ _ hm]
  unfold lfG
  have e : inO o m = false := by rw [← Bool.not_eq_true, inO_iff]; exact hmo
  rw [e, if_neg (by decide)]
  have hz : (kids l o).count (m : Int) = 0 := by
    rw [List.count_eq_zero]
    intro hc
    unfold kids at hc
    obtain ⟨i, hi, hp⟩ := List.mem_flatMap.1 hc
    obtain ⟨hi1, hi2⟩ := List.mem_filter.1 hi
    have hi1 := List.mem_range.1 hi1
    rw [parO_of hi1] at hp
    have := hl i hi1 _ hp
    have hio : (i : Int) ∈ o := hab i (by omega) hi1
    have : inO o i = true := inO_iff.2 hio
    rw [this] at hi2
    cases hi2
  rw [hz]
  rfl
theorem OrI.next {l : List Cm} (hl : ParOk l) {o : List Int} (h : OrI l o) {b : Nat} (hb : b < l.length) (hz : (lfT l o []).getD b 0 = 0) : inO o b = false ∧ OrI l (o ++ [(b : Int)]) ∧ ∀ p ∈ l[b].1, inO (o ++ [(b : Int)]) p.toNat = false := by
  rw [lfT_at _ _ hb] at hz
  unfold lfG at hz
  have hbo : inO o b = false := by
    cases q : inO o b with
    | false => rfl
    | true => rw [q, if_pos rfl] at hz; exact absurd hz (by decide)
  rw [hbo, if_neg (by decide)] at hz
  have hk : (kids l o).count (b : Int) = 0 := by
    have : (([] : List Int).count (b : Int)) = 0 := rfl
    omega
  have hbm : ¬ (b : Int) ∈ o := by rw [← Bool.not_eq_true] at hbo; exact fun q => hbo (inO_iff.2 q)
  refine ⟨hbo, ⟨?_, ?_, ?_⟩, ?_⟩
  · rw [List.nodup_append]
    refine ⟨h.nd, by simp, ?_⟩
    intro x hx y hy
    rw [List.mem_singleton] at hy
    rw [hy]
    rintro rfl
    exact hbm hx
  · intro x hx
    rcases List.mem_append.1 hx with hx | hx
    · exact h.rng x hx
    · rw [List.mem_singleton] at hx; rw [hx]; omega
  · intro i hi p hp hpo
    rcases List.mem_append.1 hpo with hq | hq
    · exact List.mem_append_left _ (h.up i hi p hp hq)
    · rw [List.mem_singleton] at hq
      subst hq
      rcases Classical.em ((i : Int) ∈ o) with q | q
      · exact List.mem_append_left _ q
      · exfalso
        have : (b : Int) ∈ kids l o := by
          unfold kids
          refine List.mem_flatMap.2 ⟨i, List.mem_filter.2 ⟨List.mem_range.2 hi, ?_⟩, by rw [parO_of hi]; exact hp⟩
          have : inO o i = false := by rw [← Bool.not_eq_true, inO_iff]; exact q
          rw [this]; rfl
        rw [List.count_eq_zero] at hk
        exact hk this
  · intro p hp
    have hpr := hl b hb p hp
    rw [← Bool.not_eq_true, inO_iff, List.mem_append, List.mem_singleton]
    rintro (q | q)
    · have e : ((p.toNat : Nat) : Int) = p := by omega
      rw [e] at q
      exact hbm (h.up b hb p hp q)
    · omega
/-- the order, by rounds -/
def ordK (l : List Cm) : Nat → List Int
  | 0 => []
  | k + 1 => ordK l k ++ [bsK l (lfT l (ordK l k) []) l.length]
def ordP (l : List Cm) : List Int := ordK l l.length
theorem ordK_len (l : List Cm) : ∀ k, (ordK l k).length = k
  | 0 => rfl
  | k + 1 => by unfold ordK; rw [List.length_append, ordK_len l k]; rfl
theorem ordK_best {l : List Cm} (hl : ParOk l) {k : Nat} (hk : k < l.length) (h : OrI l (ordK l k)) : ∃ b, b < l.length ∧ bsK l (lfT l (ordK l k) []) l.length = (b : Int) ∧ (lfT l (ordK l k) []).getD b 0 = 0 := by
  obtain ⟨j, hj, hz⟩ := h.more hl (by rw [ordK_len]; exact hk)
  have h0 := bsK_some l (lfT l (ordK l k) []) l.length j hj hz
  rcases bsK_cases l (lfT l (ordK l k) []) l.length with q | ⟨q1, q2, q3⟩
  · omega
  · exact ⟨(bsK l (lfT l (ordK l k) []) l.length).toNat, by omega, by omega, q3⟩
theorem ordK_ok {l : List Cm} (hl : ParOk l) : ∀ k, k ≤ l.length → OrI l (ordK l k)
  | 0, _ => OrI.nil l
  | k + 1, h => by
    have ih := ordK_ok hl k (by omega)
    obtain ⟨b, hb, e, hz⟩ := ordK_best hl (by omega) ih
    unfold ordK
    rw [e]
    exact (ih.next hl hb hz).2.1
theorem ordP_rng {l : List Cm} (hl : ParOk l) : ∀ x ∈ ordP l, 0 ≤ x ∧ x < l.length := (ordK_ok hl l.length (Nat.le_refl _)).rng
theorem ordP_len (l : List Cm) : (ordP l).length = l.length := ordK_len l _
/-- every commit is in it -/
theorem ordP_all {l : List Cm} (hl : ParOk l) {i : Nat} (hi : i < l.length) : (i : Int) ∈ ordP l := by
  have h := ordK_ok hl l.length (Nat.le_refl _)
  by_cases q : (i : Int) ∈ ordP l
  · exact q
  · exfalso
    have hm : (i : Int) ∈ numS l.length := numS_mem.2 (by omega)
    have hsub := nodup_sub (ordP l) ((numS l.length).erase (i : Int)) h.nd fun x hx => (List.mem_erase_of_ne (show x ≠ (i : Int) from fun e => q (e ▸ hx))).2 (numS_mem.2 (h.rng x hx))
    rw [List.length_erase_of_mem hm, numS_len, ordP_len] at hsub
    omega
end Go.Proofs.Ytgdlbpihkodeoaa
