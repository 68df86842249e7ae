/- Differences of lists: longest common subsequences and alignments. No program in sight. -/
import Derived.Test.YthacjpemeaekdaaBase
namespace Go.Proofs.Ythacjpemeaekdaa

section
variable {α : Type} [DecidableEq α]

def lcsRow (x : α) (f : List α → Nat) : List α → Nat
  | [] => 0
  | y :: b => if x = y then f b + 1 else max (f (y :: b)) (lcsRow x f b)
/-- the length of a longest common subsequence -/
def lcs : List α → List α → Nat
  | [], _ => 0
  | x :: a, b => lcsRow x (lcs a) b

theorem lcs_nil_l (b : List α) : lcs [] b = 0 := rfl
theorem lcs_nil_r (a : List α) : lcs a [] = 0 := by cases a <;> rfl
theorem lcs_cons (x y : α) (a b : List α) : lcs (x :: a) (y :: b) = if x = y then lcs a b + 1 else max (lcs a (y :: b)) (lcs (x :: a) b) := rfl

theorem lcs_ge (l : List α) : ∀ a b : List α, l.Sublist a → l.Sublist b → l.length ≤ lcs a b := by
  intro a
  induction a generalizing l with
  | nil => intro b h _; cases h; simp
  | cons x a iha =>
    intro b
    induction b generalizing l with
    | nil => intro _ h; cases h; simp
    | cons y b ihb =>
      intro h1 h2
      rw [lcs_cons]
      by_cases e : x = y
      · subst e
        rw [if_pos rfl]
        cases h1 with
        | cons _ h1 =>
          cases h2 with
          | cons _ h2 => have := iha l b h1 h2; omega
          | cons_cons _ h2 =>
            rename_i l
            have := iha l b ((List.sublist_cons_self _ _).trans h1) h2
            simp; omega
        | cons_cons _ h1 =>
          rename_i l
          have h2' : l.Sublist b := by
            cases h2 with
            | cons _ h2 => exact (List.sublist_cons_self _ _).trans h2
            | cons_cons _ h2 => exact h2
          have := iha l b h1 h2'
          simp; omega
      · rw [if_neg e]
        cases h1 with
        | cons _ h1 => have := iha l (y :: b) h1 h2; omega
        | cons_cons _ h1 =>
          rename_i l
          cases h2 with
          | cons _ h2 => have := ihb (x :: l) (h1.cons_cons x) h2; omega
          | cons_cons _ h2 => exact absurd rfl e

theorem lcs_ex : ∀ a b : List α, ∃ l : List α, l.Sublist a ∧ l.Sublist b ∧ l.length = lcs a b := by
  intro a
  induction a with
  | nil => intro b; exact ⟨[], List.nil_sublist _, List.nil_sublist _, rfl⟩
  | cons x a iha =>
    intro b
    induction b with
    | nil => exact ⟨[], List.nil_sublist _, List.nil_sublist _, rfl⟩
    | cons y b ihb =>
      rw [lcs_cons]
      by_cases e : x = y
      · subst e
        obtain ⟨l, h1, h2, h3⟩ := iha b
        exact ⟨x :: l, h1.cons_cons x, h2.cons_cons x, by simp [h3]⟩
      · rw [if_neg e]
        rcases Nat.le_total (lcs a (y :: b)) (lcs (x :: a) b) with h | h
        · obtain ⟨l, h1, h2, h3⟩ := ihb
          exact ⟨l, h1, h2.cons y, by omega⟩
        · obtain ⟨l, h1, h2, h3⟩ := iha (y :: b)
          exact ⟨l, h1.cons x, h2, by omega⟩

theorem lcs_comm (a b : List α) : lcs a b = lcs b a := by
  obtain ⟨l, h1, h2, h3⟩ := lcs_ex a b
  obtain ⟨m, k1, k2, k3⟩ := lcs_ex b a
  have := lcs_ge l b a h2 h1
  have := lcs_ge m a b k2 k1
  omega
theorem lcs_le_l (a b : List α) : lcs a b ≤ a.length := by
  obtain ⟨l, h1, h2, h3⟩ := lcs_ex a b
  have := h1.length_le
  omega
theorem lcs_le_r (a b : List α) : lcs a b ≤ b.length := by rw [lcs_comm]; exact lcs_le_l b a
theorem lcs_self (a : List α) : lcs a a = a.length := by
  have := lcs_ge a a a (List.Sublist.refl _) (List.Sublist.refl _)
  have := lcs_le_l a a
  omega
theorem lcs_full (a b : List α) (h1 : lcs a b = a.length) (h2 : lcs a b = b.length) : a = b := by
  obtain ⟨l, k1, k2, k3⟩ := lcs_ex a b
  have e1 := k1.eq_of_length (by omega)
  have e2 := k2.eq_of_length (by omega)
  rw [← e1, ← e2]

/-- the third of three: two sublists of one list meet in a long one -/
theorem sub_meet {β : Type} (b : List β) : ∀ l1 l2 : List β, l1.Sublist b → l2.Sublist b → ∃ l : List β, l.Sublist l1 ∧ l.Sublist l2 ∧ l1.length + l2.length ≤ l.length + b.length := by
  induction b with
  | nil => intro l1 l2 h1 h2; cases h1; cases h2; exact ⟨[], List.nil_sublist _, List.nil_sublist _, by simp⟩
  | cons x b ih =>
    intro l1 l2 h1 h2
    cases h1 with
    | cons _ h1 =>
      cases h2 with
      | cons _ h2 => obtain ⟨l, k1, k2, k3⟩ := ih _ _ h1 h2; exact ⟨l, k1, k2, by simp; omega⟩
      | cons_cons _ h2 => rename_i l2; obtain ⟨l, k1, k2, k3⟩ := ih _ _ h1 h2; exact ⟨l, k1, k2.cons x, by simp; omega⟩
    | cons_cons _ h1 =>
      rename_i l1
      cases h2 with
      | cons _ h2 => obtain ⟨l, k1, k2, k3⟩ := ih _ _ h1 h2; exact ⟨l, k1.cons x, k2, by simp; omega⟩
      | cons_cons _ h2 => rename_i l2; obtain ⟨l, k1, k2, k3⟩ := ih _ _ h1 h2; exact ⟨x :: l, k1.cons_cons x, k2.cons_cons x, by simp; omega⟩
theorem lcs_tri (a b c : List α) : lcs a b + lcs b c ≤ lcs a c + b.length := by
  obtain ⟨l1, h1, h2, h3⟩ := lcs_ex a b
  obtain ⟨l2, k1, k2, k3⟩ := lcs_ex b c
  obtain ⟨l, m1, m2, m3⟩ := sub_meet b l1 l2 h2 k1
  have := lcs_ge l a c (m1.trans h1) (m2.trans k2)
  omega

theorem lcs_pre (p a b : List α) : lcs (p ++ a) (p ++ b) = p.length + lcs a b := by
  induction p with
  | nil => simp
  | cons x p ih => simp only [List.cons_append, lcs_cons, if_true, ih, List.length_cons]; omega
theorem lcs_rev (a b : List α) : lcs a.reverse b.reverse = lcs a b := by
  suffices h : ∀ a b : List α, lcs a b ≤ lcs a.reverse b.reverse by
    have h1 := h a b
    have h2 := h a.reverse b.reverse
    rw [List.reverse_reverse, List.reverse_reverse] at h2
    omega
  intro a b
  obtain ⟨l, h1, h2, h3⟩ := lcs_ex a b
  have := lcs_ge l.reverse a.reverse b.reverse (List.reverse_sublist.2 h1) (List.reverse_sublist.2 h2)
  simpa [h3] using this
theorem lcs_suf (a b s : List α) : lcs (a ++ s) (b ++ s) = lcs a b + s.length := by
  rw [← lcs_rev, List.reverse_append, List.reverse_append, lcs_pre, lcs_rev, List.length_reverse]; omega

/-- at an equal pair the diagonal is the greatest -/
theorem lcs_diag (x : α) (a b : List α) : lcs a (x :: b) ≤ lcs a b + 1 ∧ lcs (x :: a) b ≤ lcs a b + 1 := by
  constructor
  · obtain ⟨l, h1, h2, h3⟩ := lcs_ex a (x :: b)
    cases h2 with
    | cons _ h2 => have := lcs_ge l a b h1 h2; omega
    | cons_cons _ h2 => rename_i l; have := lcs_ge l a b ((List.sublist_cons_self _ _).trans h1) h2; simp at h3; omega
  · obtain ⟨l, h1, h2, h3⟩ := lcs_ex (x :: a) b
    cases h1 with
    | cons _ h1 => have := lcs_ge l a b h1 h2; omega
    | cons_cons _ h1 => rename_i l; have := lcs_ge l a b h1 ((List.sublist_cons_self _ _).trans h2); simp at h3; omega

def alRow (x : α) (a : List α) (f : List α → List Int) : List α → List Int
  | [] => 1 :: f []
  | y :: b => if x = y then 0 :: f b else if lcs (x :: a) b ≤ lcs a (y :: b) then 1 :: f (y :: b) else 2 :: alRow x a f b
/-- the steps of the alignment: 0 keep, 1 delete, 2 insert -/
def align : List α → List α → List Int
  | [], b => b.map fun _ => 2
  | x :: a, b => alRow x a (align a) b
theorem align_nil : align ([] : List α) [] = [] := rfl
theorem align_ins (y : α) (b : List α) : align [] (y :: b) = 2 :: align [] b := rfl
theorem align_del (x : α) (a : List α) : align (x :: a) [] = 1 :: align a [] := rfl
theorem align_cons (x y : α) (a b : List α) : align (x :: a) (y :: b) = if x = y then 0 :: align a b else if lcs (x :: a) b ≤ lcs a (y :: b) then 1 :: align a (y :: b) else 2 :: align (x :: a) b := rfl

/-- the length, and the number of changes -/
theorem align_len : ∀ a b : List α, (align a b).length ≤ a.length + b.length ∧ ((align a b).filter (fun s => s != 0)).length = a.length + b.length - 2 * lcs a b := by
  intro a
  induction a with
  | nil =>
    intro b
    induction b with
    | nil => exact ⟨Nat.le_refl _, rfl⟩
    | cons y b ih => rw [align_ins]; simp [lcs_nil_l] at ih ⊢; omega
  | cons x a iha =>
    intro b
    induction b with
    | nil => rw [align_del]; have := iha []; simp [lcs_nil_r] at this ⊢; omega
    | cons y b ihb =>
      rw [align_cons, lcs_cons]
      have l1 := lcs_le_l a b
      have l2 := lcs_le_r a b
      have l3 := lcs_le_l a (y :: b)
      have l4 := lcs_le_r (x :: a) b
      have l5 := lcs_le_r a (y :: b)
      have l6 := lcs_le_l (x :: a) b
      simp at l5 l6
      by_cases e : x = y
      · rw [if_pos e, if_pos e]
        have := iha b
        simp; omega
      · rw [if_neg e, if_neg e]
        by_cases c : lcs (x :: a) b ≤ lcs a (y :: b)
        · rw [if_pos c]
          have := iha (y :: b)
          simp at this ⊢; omega
        · rw [if_neg c]
          simp at ihb ⊢; omega

def kpRow (x : α) (a : List α) (f : List α → List α) : List α → List α
  | [] => f []
  | y :: b => if x = y then x :: f b else if lcs (x :: a) b ≤ lcs a (y :: b) then f (y :: b) else kpRow x a f b
/-- the kept elements -/
def kp : List α → List α → List α
  | [], _ => []
  | x :: a, b => kpRow x a (kp a) b
theorem kp_cons (x y : α) (a b : List α) : kp (x :: a) (y :: b) = if x = y then x :: kp a b else if lcs (x :: a) b ≤ lcs a (y :: b) then kp a (y :: b) else kp (x :: a) b := rfl
theorem kp_del (x : α) (a : List α) : kp (x :: a) [] = kp a [] := rfl
theorem kp_nil_r (a : List α) : kp a [] = [] := by induction a with
  | nil => rfl
  | cons x a ih => rw [kp_del, ih]

theorem kp_sub : ∀ a b : List α, (kp a b).Sublist a ∧ (kp a b).Sublist b ∧ (kp a b).length = lcs a b := by
  intro a
  induction a with
  | nil => intro b; exact ⟨List.Sublist.refl _, List.nil_sublist _, rfl⟩
  | cons x a iha =>
    intro b
    induction b with
    | nil => rw [kp_nil_r]; exact ⟨List.nil_sublist _, List.nil_sublist _, rfl⟩
    | cons y b ihb =>
      rw [kp_cons, lcs_cons]
      by_cases e : x = y
      · subst e
        rw [if_pos rfl, if_pos rfl]
        obtain ⟨h1, h2, h3⟩ := iha b
        exact ⟨h1.cons_cons x, h2.cons_cons x, by simp [h3]⟩
      · rw [if_neg e, if_neg e]
        by_cases c : lcs (x :: a) b ≤ lcs a (y :: b)
        · rw [if_pos c]
          obtain ⟨h1, h2, h3⟩ := iha (y :: b)
          exact ⟨h1.cons x, h2, by omega⟩
        · rw [if_neg c]
          obtain ⟨h1, h2, h3⟩ := ihb
          exact ⟨h1, h2.cons y, by omega⟩

/-- the first step of an alignment -/
theorem align_head (a b : List α) (s : Int) (r : List Int) (h : align a b = s :: r) :
    (s = 0 ∧ ∃ x a' b', a = x :: a' ∧ b = x :: b' ∧ r = align a' b' ∧ kp a b = x :: kp a' b') ∨
    (s = 1 ∧ ∃ x a', a = x :: a' ∧ r = align a' b ∧ kp a b = kp a' b) ∨
    (s = 2 ∧ ∃ y b', b = y :: b' ∧ r = align a b' ∧ kp a b = kp a b') := by
  cases a with
  | nil =>
    cases b with
    | nil => cases h
    | cons y b =>
      rw [align_ins] at h
      obtain ⟨rfl, rfl⟩ := List.cons.inj h
      exact .inr (.inr ⟨rfl, y, b, rfl, rfl, rfl⟩)
  | cons x a =>
    cases b with
    | nil =>
      rw [align_del] at h
      obtain ⟨rfl, rfl⟩ := List.cons.inj h
      exact .inr (.inl ⟨rfl, x, a, rfl, rfl, rfl⟩)
    | cons y b =>
      rw [align_cons] at h
      rw [kp_cons]
      by_cases e : x = y
      · subst e
        rw [if_pos rfl] at h ⊢
        obtain ⟨rfl, rfl⟩ := List.cons.inj h
        exact .inl ⟨rfl, x, a, b, rfl, rfl, rfl, rfl⟩
      · rw [if_neg e] at h ⊢
        by_cases c : lcs (x :: a) b ≤ lcs a (y :: b)
        · rw [if_pos c] at h ⊢
          obtain ⟨rfl, rfl⟩ := List.cons.inj h
          exact .inr (.inl ⟨rfl, x, a, rfl, rfl, rfl⟩)
        · rw [if_neg c] at h ⊢
          obtain ⟨rfl, rfl⟩ := List.cons.inj h
          exact .inr (.inr ⟨rfl, y, b, rfl, rfl, rfl⟩)

theorem drop_cons_inv {β : Type} {l : List β} {i : Nat} {x : β} {r : List β} (h : l.drop i = x :: r) : ∃ hi : i < l.length, l[i] = x ∧ l.drop (i + 1) = r := by
  have hi : i < l.length := by
    rcases Nat.lt_or_ge i l.length with h1 | h1
    · exact h1
    · rw [List.drop_eq_nil_of_le h1] at h; cases h
  rw [List.drop_eq_getElem_cons hi] at h
  obtain ⟨h1, h2⟩ := List.cons.inj h
  exact ⟨hi, h1, h2⟩

/-- one step further in an alignment -/
theorem align_next (a b : List α) (i j t : Nat) (h : (align a b).drop t = align (a.drop i) (b.drop j)) (ht : t < (align a b).length) :
    ((align a b)[t] = 0 ∧ ∃ (hi : i < a.length) (hj : j < b.length), a[i] = b[j] ∧ (align a b).drop (t + 1) = align (a.drop (i + 1)) (b.drop (j + 1)) ∧ kp (a.drop i) (b.drop j) = a[i] :: kp (a.drop (i + 1)) (b.drop (j + 1))) ∨
    ((align a b)[t] = 1 ∧ ∃ hi : i < a.length, (align a b).drop (t + 1) = align (a.drop (i + 1)) (b.drop j) ∧ kp (a.drop i) (b.drop j) = kp (a.drop (i + 1)) (b.drop j) ∧ a[i] = a[i]) ∨
    ((align a b)[t] = 2 ∧ ∃ hj : j < b.length, (align a b).drop (t + 1) = align (a.drop i) (b.drop (j + 1)) ∧ kp (a.drop i) (b.drop j) = kp (a.drop i) (b.drop (j + 1)) ∧ b[j] = b[j]) := by
  rw [List.drop_eq_getElem_cons ht] at h
  rcases align_head _ _ _ _ h.symm with ⟨h1, x, a', b', e1, e2, e3, e4⟩ | ⟨h1, x, a', e1, e3, e4⟩ | ⟨h1, y, b', e2, e3, e4⟩
  · obtain ⟨hi, k1, k2⟩ := drop_cons_inv e1
    obtain ⟨hj, k3, k4⟩ := drop_cons_inv e2
    exact .inl ⟨h1, hi, hj, by rw [k1, k3], by rw [k2, k4, e3], by rw [e4, k1, k2, k4]⟩
  · obtain ⟨hi, k1, k2⟩ := drop_cons_inv e1
    exact .inr (.inl ⟨h1, hi, by rw [k2, e3], by rw [k2, e4], rfl⟩)
  · obtain ⟨hj, k3, k4⟩ := drop_cons_inv e2
    exact .inr (.inr ⟨h1, hj, by rw [k4, e3], by rw [k4, e4], rfl⟩)
theorem align_last (a b : List α) (i j t : Nat) (h : (align a b).drop t = align (a.drop i) (b.drop j)) (ht : (align a b).length ≤ t) : kp (a.drop i) (b.drop j) = [] := by
  rw [List.drop_eq_nil_of_le ht] at h
  cases ha : a.drop i with
  | nil => rfl
  | cons x a' =>
    rw [ha] at h
    cases hb : b.drop j with
    | nil => exact kp_nil_r _
    | cons y b' =>
      rw [hb, align_cons] at h
      split at h
      · cases h
      · split at h <;> cases h

def cnt (l : List Int) : Nat := (l.filter (fun s => s != 0)).length
theorem cnt_take (l : List Int) (k : Nat) (h : k < l.length) : cnt (l.take (k + 1)) = cnt (l.take k) + if l[k] = 0 then 0 else 1 := by
  unfold cnt
  rw [List.take_succ_eq_append_getElem h, List.filter_append, List.length_append]
  by_cases e : l[k] = 0 <;> simp [e]
theorem cnt_le (l : List Int) : cnt l ≤ l.length := List.length_filter_le _ _
end
end Go.Proofs.Ythacjpemeaekdaa
