/- The longest common prefix of two lists of strings, and the longest common suffix. No program in sight. -/
import Derived.Test.YtehdgnnelabajaaLinPure
namespace Go.Proofs.Ytehdgnnelabajaa

def cpre : List ByteArray → List ByteArray → Nat
  | x :: xs, y :: ys => if x = y then cpre xs ys + 1 else 0
  | _, _ => 0
def csuf (a b : List ByteArray) : Nat := cpre a.reverse b.reverse
theorem cpre_spec : ∀ (a b : List ByteArray), cpre a b ≤ a.length ∧ cpre a b ≤ b.length ∧ a.take (cpre a b) = b.take (cpre a b) ∧ ∀ (h : cpre a b < a.length) (h' : cpre a b < b.length), a[cpre a b] ≠ b[cpre a b]
  | [], b => by
    refine ⟨Nat.le_refl _, Nat.zero_le _, rfl, fun h => absurd h (Nat.not_lt_zero _)⟩
  | x :: xs, [] => by
    refine ⟨Nat.zero_le _, Nat.le_refl _, rfl, fun _ h => absurd h (Nat.not_lt_zero _)⟩
  | x :: xs, y :: ys => by
    obtain ⟨h1, h2, h3, h4⟩ := cpre_spec xs ys
    unfold cpre
    by_cases e : x = y
    · subst e
      simp only [if_true]
      refine ⟨by simp; omega, by simp; omega, by simp [h3], fun h h' => ?_⟩
      simp only [List.getElem_cons_succ]
      exact h4 _ _
    · simp only [if_neg e]
      exact ⟨Nat.zero_le _, Nat.zero_le _, rfl, fun _ _ => e⟩
theorem cpre_eq {a b : List ByteArray} {k : Nat} (h1 : k ≤ a.length) (h2 : k ≤ b.length) (h3 : a.take k = b.take k) (h4 : ∀ (h : k < a.length) (h' : k < b.length), a[k] ≠ b[k]) : cpre a b = k := by
  obtain ⟨g1, g2, g3, g4⟩ := cpre_spec a b
  rcases Nat.lt_trichotomy (cpre a b) k with h | h | h
  · exfalso
    refine g4 (by omega) (by omega) ?_
    have q : (a.take k)[cpre a b]? = (b.take k)[cpre a b]? := by rw [h3]
    rw [List.getElem?_take_of_lt h, List.getElem?_take_of_lt h, List.getElem?_eq_getElem (by omega), List.getElem?_eq_getElem (by omega)] at q
    exact Option.some.inj q
  · exact h
  · exfalso
    refine h4 (by omega) (by omega) ?_
    have q : (a.take (cpre a b))[k]? = (b.take (cpre a b))[k]? := by rw [g3]
    rw [List.getElem?_take_of_lt h, List.getElem?_take_of_lt h, List.getElem?_eq_getElem (by omega), List.getElem?_eq_getElem (by omega)] at q
    exact Option.some.inj q
theorem aff_take {a b : List ByteArray} {k : Nat} (h : k < a.length) (h' : k < b.length) (e : a.take k = b.take k) (q : a[k] = b[k]) : a.take (k + 1) = b.take (k + 1) := by
  rw [List.take_succ_eq_append_getElem h, List.take_succ_eq_append_getElem h', e, q]
theorem csuf_spec (a b : List ByteArray) : csuf a b ≤ a.length ∧ csuf a b ≤ b.length ∧ a.drop (a.length - csuf a b) = b.drop (b.length - csuf a b) ∧ ∀ (h : csuf a b < a.length) (h' : csuf a b < b.length), a[a.length - 1 - csuf a b] ≠ b[b.length - 1 - csuf a b] := by
  obtain ⟨g1, g2, g3, g4⟩ := cpre_spec a.reverse b.reverse
  rw [List.length_reverse] at g1 g2
  refine ⟨g1, g2, ?_, fun h h' => ?_⟩
  · rw [List.take_reverse, List.take_reverse] at g3
    exact List.reverse_inj.1 g3
  · have := g4 (by rw [List.length_reverse]; exact h) (by rw [List.length_reverse]; exact h')
    rwa [List.getElem_reverse, List.getElem_reverse] at this
theorem csuf_eq {a b : List ByteArray} {k : Nat} (h1 : k ≤ a.length) (h2 : k ≤ b.length) (h3 : a.drop (a.length - k) = b.drop (b.length - k)) (h4 : ∀ (h : k < a.length) (h' : k < b.length), a[a.length - 1 - k] ≠ b[b.length - 1 - k]) : csuf a b = k := by
  refine cpre_eq (by rw [List.length_reverse]; exact h1) (by rw [List.length_reverse]; exact h2) ?_ fun h h' => ?_
  · rw [List.take_reverse, List.take_reverse, h3]
  · rw [List.getElem_reverse, List.getElem_reverse]
    rw [List.length_reverse] at h h'
    exact h4 h h'
theorem aff_drop {a b : List ByteArray} {k : Nat} (h : k < a.length) (h' : k < b.length) (e : a.drop (a.length - k) = b.drop (b.length - k)) (q : a[a.length - 1 - k] = b[b.length - 1 - k]) : a.drop (a.length - (k + 1)) = b.drop (b.length - (k + 1)) := by
  have e1 : a.length - (k + 1) = a.length - 1 - k := by omega
  have e2 : b.length - (k + 1) = b.length - 1 - k := by omega
  have l1 : a.length - 1 - k < a.length := by omega
  have l2 : b.length - 1 - k < b.length := by omega
  have f1 : a.length - 1 - k + 1 = a.length - k := by omega
  have f2 : b.length - 1 - k + 1 = b.length - k := by omega
  rw [e1, e2, List.drop_eq_getElem_cons l1, List.drop_eq_getElem_cons l2, q, f1, f2, e]
/-- the two lengths, told of the whole lists -/
theorem aff_facts (a b : List ByteArray) : cpre a b + csuf (a.drop (cpre a b)) (b.drop (cpre a b)) ≤ a.length ∧ cpre a b + csuf (a.drop (cpre a b)) (b.drop (cpre a b)) ≤ b.length ∧ a.take (cpre a b) = b.take (cpre a b) ∧
    a.drop (a.length - csuf (a.drop (cpre a b)) (b.drop (cpre a b))) = b.drop (b.length - csuf (a.drop (cpre a b)) (b.drop (cpre a b))) ∧
    (cpre a b < a.length → cpre a b < b.length → a.getD (cpre a b) ByteArray.empty ≠ b.getD (cpre a b) ByteArray.empty) ∧
    (cpre a b + csuf (a.drop (cpre a b)) (b.drop (cpre a b)) < a.length → cpre a b + csuf (a.drop (cpre a b)) (b.drop (cpre a b)) < b.length →
      a.getD (a.length - csuf (a.drop (cpre a b)) (b.drop (cpre a b)) - 1) ByteArray.empty ≠ b.getD (b.length - csuf (a.drop (cpre a b)) (b.drop (cpre a b)) - 1) ByteArray.empty) := by
  obtain ⟨p1, p2, p3, p4⟩ := cpre_spec a b
  obtain ⟨s1, s2, s3, s4⟩ := csuf_spec (a.drop (cpre a b)) (b.drop (cpre a b))
  have at' : ∀ (l : List ByteArray) (k : Nat) (h : k < l.length), l.getD k ByteArray.empty = l[k] := fun l k h => by rw [List.getD_eq_getElem?_getD, List.getElem?_eq_getElem h]; rfl
  have p5 : cpre a b < a.length → cpre a b < b.length → a.getD (cpre a b) ByteArray.empty ≠ b.getD (cpre a b) ByteArray.empty := fun h h' => by rw [at' _ _ h, at' _ _ h']; exact p4 h h'
  have s5 : csuf (a.drop (cpre a b)) (b.drop (cpre a b)) < (a.drop (cpre a b)).length → csuf (a.drop (cpre a b)) (b.drop (cpre a b)) < (b.drop (cpre a b)).length → (a.drop (cpre a b)).getD ((a.drop (cpre a b)).length - 1 - csuf (a.drop (cpre a b)) (b.drop (cpre a b))) ByteArray.empty ≠ (b.drop (cpre a b)).getD ((b.drop (cpre a b)).length - 1 - csuf (a.drop (cpre a b)) (b.drop (cpre a b))) ByteArray.empty := fun h h' => by rw [at' _ _ (by omega), at' _ _ (by omega)]; exact s4 h h'
  clear p4 s4
  generalize csuf (a.drop (cpre a b)) (b.drop (cpre a b)) = s at s1 s2 s3 s5 ⊢
  generalize cpre a b = p at p1 p2 p3 p5 s1 s2 s3 s5 ⊢
  simp only [List.length_drop] at s1 s2 s3 s5
  refine ⟨by omega, by omega, p3, ?_, p5, fun h h' => ?_⟩
  · rw [List.drop_drop, List.drop_drop] at s3
    rwa [show p + (a.length - p - s) = a.length - s by omega, show p + (b.length - p - s) = b.length - s by omega] at s3
  · have := s5 (by omega) (by omega)
    simp only [List.getD_eq_getElem?_getD, List.getElem?_drop] at this ⊢
    rwa [show p + (a.length - p - 1 - s) = a.length - s - 1 by omega, show p + (b.length - p - 1 - s) = b.length - s - 1 by omega] at this
end Go.Proofs.Ytehdgnnelabajaa
