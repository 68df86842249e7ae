/- Texts: which line a text is refused for. No program in sight. -/
import Derived.Test.YtppmhjaooiameaaDoorBase
import Derived.Lib.IndexLaws
namespace Go.Proofs.YtppmhjaooiameaaDoor
open Go.RowKit

/-- the code of a line: too long, with a newline, good -/
def lineC (s : ByteArray) : Int := if 80 < s.size then 2 else if (10 : UInt8) ∈ s.data.toList then 5 else 0
def vIdx (l : List ByteArray) : Nat := l.findIdx (fun s => decide (lineC s ≠ 0))
/-- the code and the index of a text's fault -/
def vC (l : List ByteArray) : Int := if 120 < l.length then 2 else if h : vIdx l < l.length then lineC l[vIdx l] else 0
def vI (l : List ByteArray) : Int := if 120 < l.length then -1 else if vIdx l < l.length then vIdx l else 0

theorem vIdx_le (l : List ByteArray) : vIdx l ≤ l.length := List.findIdx_le_length
theorem line_ok (l : List ByteArray) (k : Nat) (h : k < vIdx l) (hk : k < l.length) : lineC l[k] = 0 := by
  have := List.not_of_lt_findIdx (p := fun s : ByteArray => decide (lineC s ≠ 0)) (xs := l) h
  simpa using this
theorem line_bad (l : List ByteArray) (h : vIdx l < l.length) : lineC (l[vIdx l]'h) ≠ 0 :=
  of_decide_eq_true (List.findIdx_getElem (p := fun s : ByteArray => decide (lineC s ≠ 0)) (xs := l) (w := h))
theorem lineC_long (s : ByteArray) (h : 80 < s.size) : lineC s = 2 := by simp [lineC, h]
theorem lineC_nl (s : ByteArray) (h : ¬ 80 < s.size) (h2 : (10 : UInt8) ∈ s.data.toList) : lineC s = 5 := by unfold lineC; rw [if_neg h, if_pos h2]
theorem lineC_ok (s : ByteArray) : lineC s = 0 ↔ s.size ≤ 80 ∧ (10 : UInt8) ∉ s.data.toList := by
  unfold lineC
  split
  · constructor
    · intro h; cases h
    · intro h; omega
  · split
    · constructor
      · intro h; cases h
      · intro h; exact absurd (by assumption) h.2
    · simp_all
/-- a text that is taken -/
def Good (l : List ByteArray) : Prop := l.length ≤ 120 ∧ ∀ s ∈ l, s.size ≤ 80 ∧ (10 : UInt8) ∉ s.data.toList
theorem vC_good (l : List ByteArray) : vC l = 0 ↔ Good l := by
  constructor
  · intro h
    unfold vC at h
    split at h
    · cases h
    · rename_i h1
      split at h
      · rename_i h2; exact absurd h (line_bad l h2)
      · rename_i h2
        refine ⟨by omega, fun s hs => ?_⟩
        obtain ⟨k, hk, rfl⟩ := List.getElem_of_mem hs
        exact (lineC_ok _).1 (line_ok l k (by omega) hk)
  · intro ⟨h1, h2⟩
    have h3 : ¬ vIdx l < l.length := fun h => line_bad l h ((lineC_ok _).2 (h2 _ (List.getElem_mem h)))
    unfold vC
    rw [if_neg (by omega), dif_neg h3]
theorem vI_good (l : List ByteArray) (h : Good l) : vI l = 0 := by
  have h3 : ¬ vIdx l < l.length := fun h' => line_bad l h' ((lineC_ok _).2 (h.2 _ (List.getElem_mem h')))
  unfold vI
  rw [if_neg (by have := h.1; omega), if_neg h3]
theorem vC_or (l : List ByteArray) : vC l = 0 ∨ vC l = 2 ∨ vC l = 5 := by
  unfold vC lineC
  split
  · exact .inr (.inl rfl)
  · split
    · split
      · exact .inr (.inl rfl)
      · split
        · exact .inr (.inr rfl)
        · exact .inl rfl
    · exact .inl rfl

theorem indexByte_mem (l : List UInt8) (c : UInt8) : 0 ≤ Lib.indexByte l c ↔ c ∈ l := by
  induction l with
  | nil => simp [Lib.indexByte]
  | cons b l ih =>
    have hg := Lib.indexByte_ge l c
    unfold Lib.indexByte
    by_cases h : b = c
    · simp [h]
    · have h' : (b == c) = false := by simpa using h
      rw [h']
      simp only [Bool.false_eq_true, if_false, List.mem_cons]
      by_cases h2 : Lib.indexByte l c = -1
      · have : ¬ c ∈ l := fun hm => by have := ih.2 hm; omega
        simp [h2, this, Ne.symm h]
      · have h3 : (Lib.indexByte l c == -1) = false := by simpa using h2
        rw [h3]
        have : c ∈ l := ih.1 (by omega)
        simp [this]; omega

/-- two texts, the second one's fault at index -2 -/
def bC (a b : List ByteArray) : Int := if vC a = 0 then vC b else vC a
def bI (a b : List ByteArray) : Int := if vC a = 0 then (if vC b = 0 then 0 else -2) else vI a
theorem bC_good (a b : List ByteArray) : bC a b = 0 ↔ Good a ∧ Good b := by
  unfold bC
  rw [← vC_good, ← vC_good]
  split <;> simp_all
theorem bI_good (a b : List ByteArray) (h : Good a) (h2 : Good b) : bI a b = 0 := by
  rw [← vC_good] at h h2
  simp [bI, h, h2]
theorem bgood {a b : List ByteArray} (h : bC a b = 0) : a.length ≤ 120 ∧ b.length ≤ 120 ∧ bI a b = 0 := by
  have := (bC_good a b).1 h
  refine ⟨this.1.1, this.2.1, ?_⟩
  unfold bI
  rw [if_pos ((vC_good a).2 this.1), if_pos ((vC_good b).2 this.2)]
theorem bfault {a b : List ByteArray} : (decide (bC a b = 0) && decide (bI a b = 0)) = decide (bC a b = 0) := by
  by_cases h : bC a b = 0
  · simp [h, (bgood h).2.2]
  · simp [h]
theorem getD_at {α : Type} {a : List α} {i : Nat} (d : α) (ha : i < a.length) : a.getD ((i : Int)).toNat d = a[i] := by
  rw [Int.toNat_natCast, List.getD_eq_getElem?_getD, List.getElem?_eq_getElem ha]; rfl
end Go.Proofs.YtppmhjaooiameaaDoor
