/- Transparency logs: roots, consistency proofs and what is computed of them. No program in sight. -/
import Derived.Test.YtgdlbpihkodeoaaDigPure
namespace Go.Proofs.Ytgdlbpihkodeoaa
open Go.RowKit

def IsSpl (n k : Nat) : Prop := (∃ j, k = 2 ^ j) ∧ k < n ∧ n ≤ 2 * k
theorem IsSpl.uniq {n k l : Nat} (h : IsSpl n k) (g : IsSpl n l) : k = l := by
  obtain ⟨⟨i, rfl⟩, h1, h2⟩ := h
  obtain ⟨⟨j, rfl⟩, g1, g2⟩ := g
  have e : ∀ a b : Nat, 2 ^ a < n → n ≤ 2 * 2 ^ b → a ≤ b := by
    intro a b p q
    have : 2 ^ a < 2 ^ (b + 1) := by rw [Nat.pow_succ]; omega
    have := (Nat.pow_lt_pow_iff_right (a := 2) (by decide)).1 this
    omega
  have := e i j h1 g2
  have := e j i g1 h2
  obtain rfl : i = j := by omega
  rfl
def spl (n : Nat) : Nat := 2 ^ Nat.log2 (n - 1)
theorem spl_is {n : Nat} (h : 2 ≤ n) : IsSpl n (spl n) := by
  have h0 : n - 1 ≠ 0 := by omega
  refine ⟨⟨_, rfl⟩, ?_, ?_⟩
  · have := Nat.log2_self_le h0
    unfold spl; omega
  · have := Nat.lt_log2_self (n := n - 1)
    rw [Nat.pow_succ] at this
    unfold spl; omega
theorem spl_lt {n : Nat} (h : 2 ≤ n) : 1 ≤ spl n ∧ spl n < n := by
  obtain ⟨⟨j, hj⟩, h1, -⟩ := spl_is h
  exact ⟨by rw [hj]; exact Nat.one_le_two_pow, h1⟩
theorem spl_eq {n k : Nat} (h : IsSpl n k) : spl n = k := by
  have : 2 ≤ n := by
    obtain ⟨⟨j, hj⟩, h1, -⟩ := h
    have : 1 ≤ 2 ^ j := Nat.one_le_two_pow
    omega
  exact (spl_is this).uniq h
theorem spl_part {n m : Nat} (h : 2 ≤ n) (h1 : spl n < m) (h2 : m ≤ n) : spl m = spl n := by
  obtain ⟨g1, g2, g3⟩ := spl_is h
  exact spl_eq ⟨g1, h1, by omega⟩

def rootN : Nat → List Int → Int
  | 0, _ => 0
  | f + 1, l => if l.length = 0 then 0 else if l.length = 1 then l.getD 0 0 else pr (rootN f (l.take (spl l.length))) (rootN f (l.drop (spl l.length)))
def rootV (l : List Int) : Int := rootN l.length l
theorem rootN_more : ∀ (f g : Nat) (l : List Int), l.length ≤ f → l.length ≤ g → rootN f l = rootN g l
  | 0, 0, _, _, _ => rfl
  | 0, g + 1, l, h, _ => by unfold rootN; rw [if_pos (by omega)]
  | f + 1, 0, l, _, h => by unfold rootN; rw [if_pos (by omega)]
  | f + 1, g + 1, l, h1, h2 => by
    unfold rootN
    by_cases h0 : l.length = 0
    · rw [if_pos h0, if_pos h0]
    · by_cases h3 : l.length = 1
      · rw [if_neg h0, if_neg h0, if_pos h3, if_pos h3]
      · obtain ⟨s1, s2⟩ := spl_lt (n := l.length) (by omega)
        rw [if_neg h0, if_neg h0, if_neg h3, if_neg h3, rootN_more f g _ (by rw [List.length_take]; omega) (by rw [List.length_take]; omega), rootN_more f g _ (by rw [List.length_drop]; omega) (by rw [List.length_drop]; omega)]
theorem rootV_zero {l : List Int} (h : l.length = 0) : rootV l = 0 := by unfold rootV; rw [h]; rfl
theorem rootV_one {l : List Int} (h : l.length = 1) : rootV l = l.getD 0 0 := by
  unfold rootV; rw [h]; unfold rootN; rw [if_neg (by omega), if_pos h]
theorem rootV_two {l : List Int} (h : 2 ≤ l.length) : rootV l = pr (rootV (l.take (spl l.length))) (rootV (l.drop (spl l.length))) := by
  obtain ⟨s1, s2⟩ := spl_lt h
  obtain ⟨f, hf⟩ : ∃ f, l.length = f + 1 := ⟨l.length - 1, by omega⟩
  have e : rootV l = rootN (f + 1) l := by unfold rootV; rw [hf]
  rw [e]
  unfold rootN
  rw [if_neg (by omega), if_neg (by omega)]
  unfold rootV
  rw [rootN_more f _ (l.take (spl l.length)) (by rw [List.length_take]; omega) (Nat.le_refl _), rootN_more f _ (l.drop (spl l.length)) (by rw [List.length_drop]; omega) (Nat.le_refl _)]
def DigL (l : List Int) : Prop := ∀ x ∈ l, 0 ≤ x ∧ x < 2305843009213693951
theorem DigL.take {l : List Int} (h : DigL l) (k : Nat) : DigL (l.take k) := fun x hx => h x (List.mem_of_mem_take hx)
theorem DigL.drop {l : List Int} (h : DigL l) (k : Nat) : DigL (l.drop k) := fun x hx => h x (List.mem_of_mem_drop hx)
theorem DigL.app {l m : List Int} (h : DigL l) (g : DigL m) : DigL (l ++ m) := fun x hx => (List.mem_append.1 hx).elim (h x) (g x)
theorem DigL.one {n : Int} (h : 0 ≤ n ∧ n < 2305843009213693951) : DigL [n] := fun x hx => by rw [List.mem_singleton.1 hx]; exact h
theorem rootV_bd {l : List Int} (h : DigL l) : 0 ≤ rootV l ∧ rootV l < 2305843009213693951 := by
  by_cases h0 : l.length = 0
  · rw [rootV_zero h0]; omega
  · by_cases h1 : l.length = 1
    · rw [rootV_one h1]
      have : l.getD 0 0 ∈ l := by rw [List.getD_eq_getElem?_getD, List.getElem?_eq_getElem (by omega)]; exact List.getElem_mem _
      exact h _ this
    · rw [rootV_two (by omega)]; exact pr_bd _ _

/-- the proof that a log goes on from its first m leaves -/
def consN : Nat → List Int → Nat → Bool → List Int
  | 0, _, _, _ => []
  | f + 1, l, m, kn => if m = l.length then (bif kn then [] else [rootV l]) else
      if m ≤ spl l.length then consN f (l.take (spl l.length)) m kn ++ [rootV (l.drop (spl l.length))]
      else consN f (l.drop (spl l.length)) (m - spl l.length) false ++ [rootV (l.take (spl l.length))]
theorem consN_more : ∀ (f g : Nat) (l : List Int) (m : Nat) (kn : Bool), 1 ≤ m → m ≤ l.length → l.length ≤ f → l.length ≤ g → consN f l m kn = consN g l m kn
  | 0, g, l, m, kn, h1, h2, h3, _ => absurd h1 (by omega)
  | f + 1, 0, l, m, kn, h1, h2, _, h4 => absurd h1 (by omega)
  | f + 1, g + 1, l, m, kn, h1, h2, h3, h4 => by
    unfold consN
    by_cases h0 : m = l.length
    · rw [if_pos h0, if_pos h0]
    · obtain ⟨s1, s2⟩ := spl_lt (n := l.length) (by omega)
      rw [if_neg h0, if_neg h0]
      by_cases h5 : m ≤ spl l.length
      · rw [if_pos h5, if_pos h5, consN_more f g _ m kn h1 (by rw [List.length_take]; omega) (by rw [List.length_take]; omega) (by rw [List.length_take]; omega)]
      · rw [if_neg h5, if_neg h5, consN_more f g _ (m - spl l.length) false (by omega) (by rw [List.length_drop]; omega) (by rw [List.length_drop]; omega) (by rw [List.length_drop]; omega)]
def consV (l : List Int) (m : Nat) (kn : Bool) : List Int := consN l.length l m kn
theorem consV_all (l : List Int) (kn : Bool) (h : 1 ≤ l.length) : consV l l.length kn = bif kn then [] else [rootV l] := by
  unfold consV
  obtain ⟨f, hf⟩ : ∃ f, l.length = f + 1 := ⟨l.length - 1, by omega⟩
  rw [hf]
  unfold consN
  rw [if_pos hf.symm]
theorem consV_low {l : List Int} {m : Nat} (kn : Bool) (h1 : 1 ≤ m) (h2 : m < l.length) (h3 : m ≤ spl l.length) : consV l m kn = consV (l.take (spl l.length)) m kn ++ [rootV (l.drop (spl l.length))] := by
  obtain ⟨s1, s2⟩ := spl_lt (n := l.length) (by omega)
  obtain ⟨f, hf⟩ : ∃ f, l.length = f + 1 := ⟨l.length - 1, by omega⟩
  have e : consV l m kn = consN (f + 1) l m kn := by unfold consV; rw [hf]
  rw [e]
  unfold consN
  rw [if_neg (by omega), if_pos h3]
  unfold consV
  rw [consN_more f _ (l.take (spl l.length)) m kn h1 (by rw [List.length_take]; omega) (by rw [List.length_take]; omega) (Nat.le_refl _)]
theorem consV_high {l : List Int} {m : Nat} (kn : Bool) (h1 : 1 ≤ m) (h2 : m < l.length) (h3 : ¬ m ≤ spl l.length) : consV l m kn = consV (l.drop (spl l.length)) (m - spl l.length) false ++ [rootV (l.take (spl l.length))] := by
  obtain ⟨s1, s2⟩ := spl_lt (n := l.length) (by omega)
  obtain ⟨f, hf⟩ : ∃ f, l.length = f + 1 := ⟨l.length - 1, by omega⟩
  have e : consV l m kn = consN (f + 1) l m kn := by unfold consV; rw [hf]
  rw [e]
  unfold consN
  rw [if_neg (by omega), if_neg h3]
  unfold consV
  rw [consN_more f _ (l.drop (spl l.length)) (m - spl l.length) false (by omega) (by rw [List.length_drop]; omega) (by rw [List.length_drop]; omega) (Nat.le_refl _)]
theorem consV_len : ∀ (n : Nat) (l : List Int) (m : Nat) (kn : Bool), l.length ≤ n → 1 ≤ m → m ≤ l.length → (consV l m kn).length ≤ l.length
  | 0, l, m, kn, h, h1, h2 => absurd h1 (by omega)
  | n + 1, l, m, kn, h, h1, h2 => by
    by_cases h0 : m = l.length
    · subst h0
      rw [consV_all l kn h1]
      cases kn <;> simp <;> omega
    · obtain ⟨s1, s2⟩ := spl_lt (n := l.length) (by omega)
      by_cases h3 : m ≤ spl l.length
      · rw [consV_low kn h1 (by omega) h3, List.length_append]
        have := consV_len n (l.take (spl l.length)) m kn (by rw [List.length_take]; omega) h1 (by rw [List.length_take]; omega)
        rw [List.length_take] at this
        simp; omega
      · rw [consV_high kn h1 (by omega) h3, List.length_append]
        have := consV_len n (l.drop (spl l.length)) (m - spl l.length) false (by rw [List.length_drop]; omega) (by omega) (by rw [List.length_drop]; omega)
        rw [List.length_drop] at this
        simp; omega
theorem consV_dig : ∀ (n : Nat) (l : List Int) (m : Nat) (kn : Bool), l.length ≤ n → 1 ≤ m → m ≤ l.length → DigL l → DigL (consV l m kn)
  | 0, l, m, kn, h, h1, h2, _ => absurd h1 (by omega)
  | n + 1, l, m, kn, h, h1, h2, hd => by
    by_cases h0 : m = l.length
    · subst h0
      rw [consV_all l kn h1]
      cases kn
      · exact DigL.one (rootV_bd hd)
      · intro x hx; cases hx
    · obtain ⟨s1, s2⟩ := spl_lt (n := l.length) (by omega)
      by_cases h3 : m ≤ spl l.length
      · rw [consV_low kn h1 (by omega) h3]
        exact (consV_dig n _ m kn (by rw [List.length_take]; omega) h1 (by rw [List.length_take]; omega) (hd.take _)).app (DigL.one (rootV_bd (hd.drop _)))
      · rw [consV_high kn h1 (by omega) h3]
        exact (consV_dig n _ (m - spl l.length) false (by rw [List.length_drop]; omega) (by omega) (by rw [List.length_drop]; omega) (hd.drop _)).app (DigL.one (rootV_bd (hd.take _)))

/-- what a reader of a proof holds: the elements left, whether there were too few -/
abbrev Rd := List Int × Bool
def nxV (r : Rd) : Int := r.1.getD 0 0
def nxR (r : Rd) : Rd := if r.1.length = 0 then (r.1, true) else (r.1.drop 1, r.2)
theorem nx_cons (x : Int) (l : List Int) (s : Bool) : nxV (x :: l, s) = x ∧ nxR (x :: l, s) = (l, s) := ⟨rfl, rfl⟩
/-- what is computed of a proof: both roots, the reader behind it -/
def contN : Nat → Nat → Nat → Int → Bool → Rd → (Int × Int) × Rd
  | 0, _, _, o, _, r => ((o, o), r)
  | f + 1, n, m, o, kn, r =>
    if m = n then (bif kn then ((o, o), r) else ((nxV r, nxV r), nxR r))
    else if m ≤ spl n then
      (((contN f (spl n) m o kn r).1.1, pr (contN f (spl n) m o kn r).1.2 (nxV (contN f (spl n) m o kn r).2)), nxR (contN f (spl n) m o kn r).2)
    else
      ((pr (nxV (contN f (n - spl n) (m - spl n) o false r).2) (contN f (n - spl n) (m - spl n) o false r).1.1, pr (nxV (contN f (n - spl n) (m - spl n) o false r).2) (contN f (n - spl n) (m - spl n) o false r).1.2), nxR (contN f (n - spl n) (m - spl n) o false r).2)
theorem contN_cons : ∀ (f : Nat) (l : List Int) (m : Nat) (o : Int) (kn : Bool) (rest : List Int) (s : Bool), l.length ≤ f → 1 ≤ m → m ≤ l.length → (kn = true → o = rootV (l.take m)) →
    contN f l.length m o kn (consV l m kn ++ rest, s) = ((rootV (l.take m), rootV l), (rest, s))
  | 0, l, m, o, kn, rest, s, h, h1, h2, _ => absurd h1 (by omega)
  | f + 1, l, m, o, kn, rest, s, h, h1, h2, ho => by
    unfold contN
    by_cases h0 : m = l.length
    · subst h0
      rw [if_pos rfl, consV_all l kn h1, List.take_length]
      cases kn
      · rfl
      · have := ho rfl
        rw [List.take_length] at this
        rw [this]; rfl
    · obtain ⟨s1, s2⟩ := spl_lt (n := l.length) (by omega)
      rw [if_neg h0]
      by_cases h3 : m ≤ spl l.length
      · have lt : (l.take (spl l.length)).length = spl l.length := by rw [List.length_take]; omega
        have ih := contN_cons f (l.take (spl l.length)) m o kn (rootV (l.drop (spl l.length)) :: rest) s (by omega) h1 (by omega) (by
          intro q; rw [ho q, List.take_take, Nat.min_eq_left h3])
        rw [lt] at ih
        rw [if_pos h3, consV_low kn h1 (by omega) h3, List.append_assoc, List.singleton_append, ih]
        rw [rootV_two (l := l) (by omega), List.take_take, Nat.min_eq_left h3]
        rfl
      · have ld : (l.drop (spl l.length)).length = l.length - spl l.length := List.length_drop
        have ih := contN_cons f (l.drop (spl l.length)) (m - spl l.length) o false (rootV (l.take (spl l.length)) :: rest) s (by omega) (by omega) (by omega) (by intro q; cases q)
        rw [ld] at ih
        rw [if_neg h3, consV_high kn h1 (by omega) h3, List.append_assoc, List.singleton_append, ih]
        have lm : (l.take m).length = m := by rw [List.length_take]; omega
        have sm : spl m = spl l.length := spl_part (by omega) (by omega) h2
        have e : rootV (l.take m) = pr (rootV (l.take (spl l.length))) (rootV ((l.drop (spl l.length)).take (m - spl l.length))) := by
          rw [rootV_two (l := l.take m) (by omega), lm, sm, List.take_take, Nat.min_eq_left (by omega), List.drop_take]
        rw [e, rootV_two (l := l) (by omega)]
        rfl
theorem nxR_dig {r : Rd} (h : DigL r.1) : DigL (nxR r).1 := by
  unfold nxR
  split
  · exact h
  · exact h.drop 1
theorem nxV_bd {r : Rd} (h : DigL r.1) : 0 ≤ nxV r ∧ nxV r < 2305843009213693951 := by
  unfold nxV
  rcases Nat.lt_or_ge 0 r.1.length with q | q
  · rw [List.getD_eq_getElem?_getD, List.getElem?_eq_getElem q]
    exact h _ (List.getElem_mem q)
  · rw [List.getD_eq_getElem?_getD, List.getElem?_eq_none q]
    show 0 ≤ (0 : Int) ∧ (0 : Int) < _
    omega
theorem contN_bd : ∀ (f n m : Nat) (o : Int) (kn : Bool) (r : Rd), 0 ≤ o ∧ o < 2305843009213693951 → DigL r.1 →
    (0 ≤ (contN f n m o kn r).1.1 ∧ (contN f n m o kn r).1.1 < 2305843009213693951) ∧ (0 ≤ (contN f n m o kn r).1.2 ∧ (contN f n m o kn r).1.2 < 2305843009213693951) ∧ DigL (contN f n m o kn r).2.1
  | 0, n, m, o, kn, r, h, hd => ⟨h, h, hd⟩
  | f + 1, n, m, o, kn, r, h, hd => by
    unfold contN
    by_cases h0 : m = n
    · rw [if_pos h0]
      cases kn
      · exact ⟨nxV_bd hd, nxV_bd hd, nxR_dig hd⟩
      · exact ⟨h, h, hd⟩
    · rw [if_neg h0]
      by_cases h3 : m ≤ spl n
      · rw [if_pos h3]
        have ih := contN_bd f (spl n) m o kn r h hd
        exact ⟨ih.1, pr_bd _ _, nxR_dig ih.2.2⟩
      · rw [if_neg h3]
        have ih := contN_bd f (n - spl n) (m - spl n) o false r h hd
        exact ⟨pr_bd _ _, pr_bd _ _, nxR_dig ih.2.2⟩
theorem contN_more : ∀ (f g n m : Nat) (o : Int) (kn : Bool) (r : Rd), 1 ≤ m → m ≤ n → n ≤ f → n ≤ g → contN f n m o kn r = contN g n m o kn r
  | 0, g, n, m, o, kn, r, h1, h2, h3, _ => absurd h1 (by omega)
  | f + 1, 0, n, m, o, kn, r, h1, h2, _, h4 => absurd h1 (by omega)
  | f + 1, g + 1, n, m, o, kn, r, h1, h2, h3, h4 => by
    unfold contN
    by_cases h0 : m = n
    · rw [if_pos h0, if_pos h0]
    · obtain ⟨s1, s2⟩ := spl_lt (n := n) (by omega)
      rw [if_neg h0, if_neg h0]
      by_cases h5 : m ≤ spl n
      · rw [if_pos h5, if_pos h5, contN_more f g (spl n) m o kn r h1 h5 (by omega) (by omega)]
      · rw [if_neg h5, if_neg h5, contN_more f g (n - spl n) (m - spl n) o false r (by omega) (by omega) (by omega) (by omega)]
end Go.Proofs.Ytgdlbpihkodeoaa
