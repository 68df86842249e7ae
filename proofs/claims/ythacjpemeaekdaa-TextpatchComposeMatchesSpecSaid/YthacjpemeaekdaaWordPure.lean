/- Tokens of a line. No program in sight. -/
import Derived.Test.YthacjpemeaekdaaBase
import Derived.Lib.Strings
namespace Go.Proofs.Ythacjpemeaekdaa

/-- the class of a byte: 1 word, 2 blank, 0 other -/
def clsV (c : Int) : Int := if (97 ≤ c ∧ c ≤ 122) ∨ (65 ≤ c ∧ c ≤ 90) ∨ (48 ≤ c ∧ c ≤ 57) ∨ c = 95 ∨ 128 ≤ c then 1 else if c = 32 ∨ c = 9 then 2 else 0
def cls (c : UInt8) : Int := clsV c.toNat
def kindV (c : Int) : Int := if clsV c = 1 then 0 else if clsV c = 2 then 1 else 2

theorem cls_cases (c : Int) (h0 : 0 ≤ c) (h1 : c ≤ 255) : c ≤ 8 ∨ c = 9 ∨ (10 ≤ c ∧ c ≤ 31) ∨ c = 32 ∨ (33 ≤ c ∧ c ≤ 47) ∨ (48 ≤ c ∧ c ≤ 57) ∨ (58 ≤ c ∧ c ≤ 64) ∨ (65 ≤ c ∧ c ≤ 90) ∨ (91 ≤ c ∧ c ≤ 94) ∨ c = 95 ∨ c = 96 ∨ (97 ≤ c ∧ c ≤ 122) ∨ (123 ≤ c ∧ c ≤ 127) ∨ (128 ≤ c ∧ c ≤ 255) := by omega

theorem clsV_or (c : Int) : clsV c = 0 ∨ clsV c = 1 ∨ clsV c = 2 := by
  unfold clsV; split
  · exact .inr (.inl rfl)
  · split
    · exact .inr (.inr rfl)
    · exact .inl rfl
theorem kindV_lt (c : Int) : kindV c < 2 ↔ clsV c ≠ 0 := by
  unfold kindV
  rcases clsV_or c with h | h | h <;> rw [h] <;> decide
theorem kindV_eq (c d : Int) : kindV c = kindV d ↔ clsV c = clsV d := by
  unfold kindV
  rcases clsV_or c with h | h | h <;> rcases clsV_or d with k | k | k <;> rw [h, k] <;> decide

theorem clsV_1 (c : Int) (h : (97 ≤ c ∧ c ≤ 122) ∨ (65 ≤ c ∧ c ≤ 90) ∨ (48 ≤ c ∧ c ≤ 57) ∨ c = 95 ∨ 128 ≤ c) : clsV c = 1 := if_pos h
theorem clsV_2 (c : Int) (h : c = 32 ∨ c = 9) : clsV c = 2 := by unfold clsV; rw [if_neg (by omega), if_pos h]
theorem clsV_0 (c : Int) (h : ¬ ((97 ≤ c ∧ c ≤ 122) ∨ (65 ≤ c ∧ c ≤ 90) ∨ (48 ≤ c ∧ c ≤ 57) ∨ c = 95 ∨ 128 ≤ c)) (h2 : ¬ (c = 32 ∨ c = 9)) : clsV c = 0 := by unfold clsV; rw [if_neg h, if_neg h2]
theorem kindV_1 (c : Int) (h : (97 ≤ c ∧ c ≤ 122) ∨ (65 ≤ c ∧ c ≤ 90) ∨ (48 ≤ c ∧ c ≤ 57) ∨ c = 95 ∨ 128 ≤ c) : kindV c = 0 := by unfold kindV; rw [clsV_1 c h]; rfl
theorem kindV_2 (c : Int) (h : c = 32 ∨ c = 9) : kindV c = 1 := by unfold kindV; rw [clsV_2 c h]; rfl
theorem kindV_0 (c : Int) (h : ¬ ((97 ≤ c ∧ c ≤ 122) ∨ (65 ≤ c ∧ c ≤ 90) ∨ (48 ≤ c ∧ c ≤ 57) ∨ c = 95 ∨ 128 ≤ c)) (h2 : ¬ (c = 32 ∨ c = 9)) : kindV c = 2 := by unfold kindV; rw [clsV_0 c h h2]; rfl

/-- how many further bytes the first token has -/
def more (c : UInt8) (r : List UInt8) : Nat := if cls c = 0 then 0 else (r.takeWhile fun d => decide (cls d = cls c)).length
theorem more_le (c : UInt8) (r : List UInt8) : more c r ≤ r.length := by
  unfold more; split
  · omega
  · exact (List.takeWhile_sublist _).length_le

/-- the tokens of a list of bytes, by a number of rounds -/
def toksF : Nat → List UInt8 → List ByteArray
  | 0, _ => []
  | _ + 1, [] => []
  | n + 1, c :: r => ⟨(c :: r.take (more c r)).toArray⟩ :: toksF n (r.drop (more c r))
def toks (l : List UInt8) : List ByteArray := toksF l.length l
theorem toksF_more : ∀ (n m : Nat) (l : List UInt8), l.length ≤ n → l.length ≤ m → toksF n l = toksF m l := by
  intro n
  induction n with
  | zero =>
    intro m l h _
    have : l = [] := by simpa using h
    subst this
    cases m <;> rfl
  | succ n ih =>
    intro m l h hm
    cases l with
    | nil => cases m <;> rfl
    | cons c r =>
      simp only [List.length_cons] at h hm
      cases m with
      | zero => omega
      | succ m =>
        show _ :: toksF n _ = _ :: toksF m _
        rw [ih m _ (by rw [List.length_drop]; omega) (by rw [List.length_drop]; omega)]
theorem toks_cons (c : UInt8) (r : List UInt8) : toks (c :: r) = ⟨(c :: r.take (more c r)).toArray⟩ :: toks (r.drop (more c r)) := by
  show _ :: toksF r.length _ = _
  rw [toksF_more r.length (r.drop (more c r)).length _ (by rw [List.length_drop]; omega) (Nat.le_refl _)]
  rfl
theorem more_lt (c : UInt8) (r : List UInt8) (m : Nat) (h : m < more c r) : cls c ≠ 0 ∧ ∃ hm : m < r.length, cls r[m] = cls c := by
  unfold more at h
  split at h
  · omega
  · rename_i h0
    refine ⟨h0, ?_⟩
    have hp : (r.takeWhile fun d => decide (cls d = cls c)) <+: r := List.takeWhile_prefix _
    have hl := hp.length_le
    have hm : m < r.length := by omega
    refine ⟨hm, ?_⟩
    have hmem : (r.takeWhile fun d => decide (cls d = cls c))[m] ∈ (r.takeWhile fun d => decide (cls d = cls c)) := List.getElem_mem h
    have hall := List.all_takeWhile (p := fun d => decide (cls d = cls c)) (l := r)
    rw [List.all_eq_true] at hall
    have := hall _ hmem
    rw [hp.getElem h] at this
    exact of_decide_eq_true this
theorem takeWhile_end {α : Type} (p : α → Bool) (r : List α) (h : (r.takeWhile p).length < r.length) : p (r[(r.takeWhile p).length]'h) = false := by
  induction r with
  | nil => simp at h
  | cons a r ih =>
    cases hp : p a with
    | false => simp [hp]
    | true =>
      simp only [List.takeWhile_cons, hp, if_true, List.length_cons, List.getElem_cons_succ] at h ⊢
      exact ih (by omega)
theorem more_end (c : UInt8) (r : List UInt8) : cls c = 0 ∨ more c r = r.length ∨ ∃ hm : more c r < r.length, cls r[more c r] ≠ cls c := by
  by_cases h0 : cls c = 0
  · exact .inl h0
  · right
    have hle := more_le c r
    rcases Nat.lt_or_ge (more c r) r.length with h | h
    · right
      refine ⟨h, ?_⟩
      have e : more c r = (r.takeWhile fun d => decide (cls d = cls c)).length := if_neg h0
      have h' := h
      rw [e] at h'
      have := takeWhile_end (fun d => decide (cls d = cls c)) r h'
      simp only [e]
      exact of_decide_eq_false this
    · exact .inl (by omega)

theorem drop_toks (l : List UInt8) (p : Nat) (hp : p < l.length) : toks (l.drop p) = ⟨(l[p] :: (l.drop (p + 1)).take (more l[p] (l.drop (p + 1)))).toArray⟩ :: toks (l.drop (p + 1 + more l[p] (l.drop (p + 1)))) := by
  rw [List.drop_eq_getElem_cons hp, toks_cons, List.drop_drop]
theorem extract_tok (s : ByteArray) (p m : Nat) (hp : p < s.data.toList.length) : s.extract p (p + 1 + m) = ⟨(s.data.toList[p] :: (s.data.toList.drop (p + 1)).take m).toArray⟩ := by
  rw [Lib.extract_eq]
  congr 2
  rw [List.drop_eq_getElem_cons hp]
  have : p + 1 + m - p = m + 1 := by omega
  rw [this, List.take_succ_cons]

theorem mk_size (l : List UInt8) : (⟨l.toArray⟩ : ByteArray).size = l.length := by simp [ByteArray.size]
/-- the tokens are short, not empty, and together they are the line -/
theorem toksF_facts : ∀ (n : Nat) (l : List UInt8), l.length ≤ n → (∀ t ∈ toksF n l, 0 < t.size ∧ t.size ≤ l.length) ∧ ((toksF n l).map (·.size)).sum = l.length ∧ (toksF n l).length ≤ l.length ∧ (toksF n l).flatMap (fun t => t.data.toList) = l := by
  intro n
  induction n with
  | zero =>
    intro l h
    have : l = [] := by simpa using h
    subst this
    exact ⟨fun t h => by simp [toksF] at h, rfl, Nat.le_refl _, rfl⟩
  | succ n ih =>
    intro l h
    cases l with
    | nil => exact ⟨fun t h => by simp [toksF] at h, rfl, Nat.le_refl _, rfl⟩
    | cons c r =>
      simp only [List.length_cons] at h
      have hm := more_le c r
      obtain ⟨h1, h2, h3, h4⟩ := ih (r.drop (more c r)) (by rw [List.length_drop]; omega)
      rw [List.length_drop] at h1 h2 h3
      have hs : (⟨(c :: r.take (more c r)).toArray⟩ : ByteArray).size = more c r + 1 := by rw [mk_size, List.length_cons, List.length_take]; omega
      refine ⟨?_, ?_, ?_, ?_⟩
      · intro t ht
        simp only [toksF, List.mem_cons] at ht
        rcases ht with rfl | ht
        · rw [hs]; simp; omega
        · have := h1 t ht; simp; omega
      · simp only [toksF, List.map_cons, List.sum_cons, hs, h2, List.length_cons]; omega
      · simp only [toksF, List.length_cons]; omega
      · simp only [toksF, List.flatMap_cons, h4]
        rw [List.cons_append, List.take_append_drop]
theorem toks_facts (l : List UInt8) : (∀ t ∈ toks l, 0 < t.size ∧ t.size ≤ l.length) ∧ ((toks l).map (·.size)).sum = l.length ∧ (toks l).length ≤ l.length ∧ (toks l).flatMap (fun t => t.data.toList) = l := toksF_facts _ l (Nat.le_refl _)
end Go.Proofs.Ythacjpemeaekdaa
