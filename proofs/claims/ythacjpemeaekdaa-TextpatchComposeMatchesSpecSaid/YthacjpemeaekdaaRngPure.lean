/- Ranges of marks: plain laws. -/
import Derived.Test.YthacjpemeaekdaaWordPure
namespace Go.Proofs.Ythacjpemeaekdaa

/-- a marked stretch behind ranges: it lengthens the last one where it begins at its end -/
def rpush : List (Int × Int) → Int → Int → List (Int × Int)
  | [], a, t => [(a, t)]
  | [p], a, t => if p.2 = a then [(p.1, t)] else [p, (a, t)]
  | p :: q :: r, a, t => p :: rpush (q :: r) a t
def rgl : List (Int × Int) → Int → List Bool → List (Int × Int)
  | out, _, [] => out
  | out, a, m :: r => rgl (if m then rpush out a (a + 1) else out) (a + 1) r
/-- the ranges of marks -/
def rgs (m : List Bool) : List (Int × Int) := rgl [] 0 m

theorem rgl_append : ∀ (l r : List Bool) (out : List (Int × Int)) (a : Int), rgl out a (l ++ r) = rgl (rgl out a l) (a + l.length) r
  | [], r, out, a => by simp [rgl]
  | m :: l, r, out, a => by
    simp only [List.cons_append, rgl, rgl_append l r]
    congr 1
    simp; omega
theorem rpush_twice : ∀ (out : List (Int × Int)) (a b c : Int), rpush (rpush out a b) b c = rpush out a c
  | [], a, b, c => by simp [rpush]
  | [p], a, b, c => by
    by_cases h : p.2 = a <;> simp [rpush, h]
  | p :: q :: r, a, b, c => by
    have ih := rpush_twice (q :: r) a b c
    have hne : ∀ (l : List (Int × Int)) (x y : Int), ∃ u v, rpush l x y = u :: v := by
      intro l x y
      match l with
      | [] => exact ⟨_, _, rfl⟩
      | [p] => unfold rpush; by_cases h : p.2 = x <;> simp [h]
      | p :: q :: r => exact ⟨_, _, rfl⟩
    obtain ⟨u, v, e⟩ := hne (q :: r) a b
    rw [rpush, e, rpush, ← e, ih, rpush]
theorem rgl_false : ∀ (n : Nat) (out : List (Int × Int)) (a : Int), rgl out a (List.replicate n false) = out
  | 0, out, a => rfl
  | n + 1, out, a => by rw [List.replicate_succ, rgl]; exact rgl_false n out (a + 1)
theorem rgl_true : ∀ (n : Nat) (out : List (Int × Int)) (a : Int), rgl out a (List.replicate (n + 1) true) = rpush out a (a + (n + 1))
  | 0, out, a => by simp [rgl]
  | n + 1, out, a => by
    rw [List.replicate_succ, rgl, rgl_true n]
    simp only [if_true, rpush_twice]
    congr 1
    push_cast; omega
theorem rgs_false (m : List Bool) (n : Nat) : rgs (m ++ List.replicate n false) = rgs m := by
  rw [rgs, rgl_append, rgl_false]; rfl
theorem rgs_true (m : List Bool) (n : Nat) (h : 0 < n) : rgs (m ++ List.replicate n true) = rpush (rgs m) m.length (m.length + n) := by
  obtain ⟨k, rfl⟩ : ∃ k, n = k + 1 := ⟨n - 1, by omega⟩
  rw [rgs, rgl_append, rgl_true]
  simp only [rgs, Int.zero_add]
  congr 1
theorem rpush_len : ∀ (l : List (Int × Int)) (a b : Int), (rpush l a b).length ≤ l.length + 1
  | [], a, b => by simp [rpush]
  | [p], a, b => by by_cases h : p.2 = a <;> simp [rpush, h]
  | p :: q :: r, a, b => by have := rpush_len (q :: r) a b; simp [rpush] at this ⊢; omega
theorem rgl_len : ∀ (m : List Bool) (l : List (Int × Int)) (a : Int), (rgl l a m).length ≤ l.length + m.length
  | [], l, a => by simp [rgl]
  | x :: m, l, a => by
    have h1 := rgl_len m (if x then rpush l a (a + 1) else l) (a + 1)
    have h2 := rpush_len l a (a + 1)
    rw [rgl]
    cases x <;> simp at h1 ⊢ <;> omega
theorem rgs_len (m : List Bool) : (rgs m).length ≤ m.length := by have := rgl_len m [] 0; simpa [rgs] using this
end Go.Proofs.Ythacjpemeaekdaa
