/- The steps of an alignment with their texts; the marks of a line. No program in sight. -/
import Derived.Test.YthacjpemeaekdaaDiffTab
import Derived.Test.YthacjpemeaekdaaRngPure
namespace Go.Proofs.Ythacjpemeaekdaa

def stp {α : Type} : List Int → List α → List α → List (Int × α)
  | [], _, _ => []
  | s :: r, a, b => if s = 2 then (match b with | y :: b' => (2, y) :: stp r a b' | [] => []) else (match a with | x :: a' => (s, x) :: stp r a' (if s = 0 then b.tail else b) | [] => [])
def steps (a b : List ByteArray) : List (Int × ByteArray) := stp (align a b) a b
/-- the marks of the bytes of the old line, of the new one -/
def mX (l : List (Int × ByteArray)) : List Bool := l.flatMap fun p => if p.1 = 2 then [] else List.replicate p.2.size (decide (p.1 = 1))
def mY (l : List (Int × ByteArray)) : List Bool := l.flatMap fun p => if p.1 = 1 then [] else List.replicate p.2.size (decide (p.1 = 2))
theorem mX_snoc (l : List (Int × ByteArray)) (s : Int) (t : ByteArray) : mX (l ++ [(s, t)]) = mX l ++ if s = 2 then [] else List.replicate t.size (decide (s = 1)) := by simp [mX]
theorem mY_snoc (l : List (Int × ByteArray)) (s : Int) (t : ByteArray) : mY (l ++ [(s, t)]) = mY l ++ if s = 1 then [] else List.replicate t.size (decide (s = 2)) := by simp [mY]

theorem stp_keep {α : Type} (r : List Int) (a b : List α) (i j : Nat) (hi : i < a.length) (hj : j < b.length) : stp (0 :: r) (a.drop i) (b.drop j) = (0, a[i]) :: stp r (a.drop (i + 1)) (b.drop (j + 1)) := by
  rw [List.drop_eq_getElem_cons hi, List.drop_eq_getElem_cons hj]; simp [stp]
theorem stp_del {α : Type} (r : List Int) (a b : List α) (i j : Nat) (hi : i < a.length) : stp (1 :: r) (a.drop i) (b.drop j) = (1, a[i]) :: stp r (a.drop (i + 1)) (b.drop j) := by
  rw [List.drop_eq_getElem_cons hi]; simp [stp]
theorem stp_ins {α : Type} (r : List Int) (a b : List α) (i j : Nat) (hj : j < b.length) : stp (2 :: r) (a.drop i) (b.drop j) = (2, b[j]) :: stp r (a.drop i) (b.drop (j + 1)) := by
  rw [List.drop_eq_getElem_cons hj]; simp [stp]

theorem rpush_set : ∀ (l : List (Int × Int)) (a t : Int) (d : Int × Int), l ≠ [] → (l.getD (l.length - 1) d).2 = a → rpush l a t = l.set (l.length - 1) ((l.getD (l.length - 1) d).1, t)
  | [], _, _, _, h, _ => absurd rfl h
  | [p], a, t, d, _, h => by
    have h : p.2 = a := h
    simp [rpush, h]
  | p :: q :: r, a, t, d, _, h => by
    have e : (p :: q :: r).length - 1 = ((q :: r).length - 1) + 1 := by simp
    rw [e] at h ⊢
    rw [List.getD_cons_succ] at h ⊢
    rw [List.set_cons_succ, rpush, rpush_set (q :: r) a t d (by simp) h]
theorem rpush_app : ∀ (l : List (Int × Int)) (a t : Int) (d : Int × Int), (l ≠ [] → ¬ (l.getD (l.length - 1) d).2 = a) → rpush l a t = l ++ [(a, t)]
  | [], _, _, _, _ => rfl
  | [p], a, t, d, h => by
    have h : ¬ p.2 = a := h (by simp)
    simp [rpush, h]
  | p :: q :: r, a, t, d, h => by
    have h := h (by simp)
    have e : (p :: q :: r).length - 1 = ((q :: r).length - 1) + 1 := by simp
    rw [e, List.getD_cons_succ] at h
    rw [rpush, rpush_app (q :: r) a t d (fun _ => h)]; rfl
theorem mX_0 (D : List (Int × ByteArray)) (x : ByteArray) : rgs (mX (D ++ [(0, x)])) = rgs (mX D) ∧ (mX (D ++ [(0, x)])).length = (mX D).length + x.size := by
  rw [mX_snoc, if_neg (by decide)]
  exact ⟨rgs_false _ _, by simp⟩
theorem mY_0 (D : List (Int × ByteArray)) (x : ByteArray) : rgs (mY (D ++ [(0, x)])) = rgs (mY D) ∧ (mY (D ++ [(0, x)])).length = (mY D).length + x.size := by
  rw [mY_snoc, if_neg (by decide)]
  exact ⟨rgs_false _ _, by simp⟩
theorem mX_2 (D : List (Int × ByteArray)) (x : ByteArray) : mX (D ++ [(2, x)]) = mX D := by rw [mX_snoc, if_pos rfl, List.append_nil]
theorem mY_1 (D : List (Int × ByteArray)) (x : ByteArray) : mY (D ++ [(1, x)]) = mY D := by rw [mY_snoc, if_pos rfl, List.append_nil]
theorem mX_1 (D : List (Int × ByteArray)) (x : ByteArray) (h : 0 < x.size) : rgs (mX (D ++ [(1, x)])) = rpush (rgs (mX D)) (mX D).length ((mX D).length + x.size) ∧ (mX (D ++ [(1, x)])).length = (mX D).length + x.size := by
  rw [mX_snoc, if_neg (by decide)]
  exact ⟨rgs_true _ _ h, by simp⟩
theorem mY_2 (D : List (Int × ByteArray)) (x : ByteArray) (h : 0 < x.size) : rgs (mY (D ++ [(2, x)])) = rpush (rgs (mY D)) (mY D).length ((mY D).length + x.size) ∧ (mY (D ++ [(2, x)])).length = (mY D).length + x.size := by
  rw [mY_snoc, if_neg (by decide)]
  exact ⟨rgs_true _ _ h, by simp⟩
end Go.Proofs.Ythacjpemeaekdaa
