/- What the reference's Pieces gives: the lines and an empty one behind a newline. No program in sight. -/
import Derived.Test.YtehdgnnelabajaaLnCut
namespace Go.Proofs.Ytehdgnnelabajaa
open Go.RowKit

def nlLast (b : List UInt8) : Prop := b = [] ∨ b.getLast? = some 10
instance (b : List UInt8) : Decidable (nlLast b) := by unfold nlLast; infer_instance
/-- the pieces between newlines -/
def rpL (s : ByteArray) : List ByteArray := pcs s ++ (if nlLast s.data.toList then [ByteArray.empty] else [])

theorem joinL_last {l : List ByteArray} (h : l ≠ []) : (joinL l).getLast? = some 10 := by
  obtain ⟨a, x, rfl⟩ : ∃ a x, l = a ++ [x] := ⟨l.dropLast, l.getLast h, (List.dropLast_concat_getLast h).symm⟩
  rw [joinL_append, joinL_cons, joinL_nil]
  simp
theorem not_last {b : List UInt8} (h : (10 : UInt8) ∉ b) (h0 : b ≠ []) : ¬ nlLast b := by
  rintro (q | q)
  · exact h0 q
  · exact h (List.mem_of_getLast? q)
theorem last_app {a b : List UInt8} (h : b ≠ []) : (a ++ b).getLast? = b.getLast? := by
  rw [List.getLast?_append]
  cases hb : b.getLast? with
  | none => exact absurd (List.getLast?_eq_none_iff.1 hb) h
  | some x => rfl
/-- where the loop ends -/
theorem rpL_end {s : ByteArray} {out : List ByteArray} {r : List UInt8} (e : s.data.toList = joinL out ++ r) (h : ∀ q ∈ out, (10 : UInt8) ∉ q.data.toList) (hr : (10 : UInt8) ∉ r) : rpL s = out ++ [toB r] := by
  have h1 : pcs s = out ++ lns r := by
    have := lns_join out r h
    rw [← e] at this
    exact this
  unfold rpL
  rw [h1, e]
  by_cases h0 : r = []
  · subst h0
    rw [lns_nil, List.append_nil, List.append_nil, if_pos]
    · rfl
    · by_cases ho : out = []
      · subst ho; exact .inl rfl
      · exact .inr (joinL_last ho)
  · rw [lns_last hr h0, if_neg, List.append_nil]
    have := not_last hr h0
    rintro (q | q)
    · exact h0 (List.append_eq_nil_iff.1 q).2
    · exact this (.inr (by rw [← last_app h0]; exact q))
theorem lns_ne : ∀ (n : Nat) (b : List UInt8), b.length ≤ n → ¬ nlLast b → ∃ a x, lns b = a ++ [x] ∧ x ≠ ByteArray.empty
  | 0, b, h, h0 => absurd (.inl (List.length_eq_zero_iff.1 (by omega))) h0
  | n + 1, b, h, h0 => by
    rcases bytes_cases b with rfl | ⟨h1, h2⟩ | ⟨a, c, rfl, h1⟩
    · exact absurd (.inl rfl) h0
    · refine ⟨[], toB b, by rw [lns_last h2 h1]; rfl, fun e => h1 ?_⟩
      have : (toB b).data.toList = [] := by rw [e]; rfl
      rwa [toB_data] at this
    · have hc : ¬ nlLast c := by
        rintro (q | q)
        · subst q; exact h0 (.inr (by simp))
        · refine h0 (.inr ?_)
          have hne : c ≠ [] := fun e => by subst e; cases q
          have e : a ++ 10 :: c = (a ++ [10]) ++ c := by simp
          rw [e, last_app hne, q]
      obtain ⟨a', x, e1, e2⟩ := lns_ne n c (by simp at h; omega) hc
      exact ⟨toB a :: a', x, by rw [lns_at h1, e1]; rfl, e2⟩
theorem rpL_pos (s : ByteArray) : 0 < (rpL s).length := by
  unfold rpL
  by_cases h : nlLast s.data.toList
  · rw [if_pos h, List.length_append]; simp
  · rw [if_neg h]
    obtain ⟨a, x, e, -⟩ := lns_ne _ s.data.toList (Nat.le_refl _) h
    have e : pcs s = a ++ [x] := e
    rw [e]; simp
theorem rpL_yes {s : ByteArray} (h : nlLast s.data.toList) : (rpL s).getD ((rpL s).length - 1) ByteArray.empty = ByteArray.empty ∧ (rpL s).take ((rpL s).length - 1) = pcs s := by
  have e : rpL s = pcs s ++ [ByteArray.empty] := by unfold rpL; rw [if_pos h]
  rw [e]
  constructor
  · rw [List.getD_eq_getElem?_getD]; simp
  · simp
theorem rpL_no {s : ByteArray} (h : ¬ nlLast s.data.toList) : (rpL s).getD ((rpL s).length - 1) ByteArray.empty ≠ ByteArray.empty ∧ rpL s = pcs s := by
  have e : rpL s = pcs s := by unfold rpL; rw [if_neg h, List.append_nil]
  obtain ⟨a, x, e1, e2⟩ := lns_ne _ s.data.toList (Nat.le_refl _) h
  have e1 : pcs s = a ++ [x] := e1
  refine ⟨?_, e⟩
  rw [e, e1, List.getD_eq_getElem?_getD]
  simpa using e2
theorem take_drop {α : Type} (l : List α) (n : Nat) : l = l.take n ++ l.drop n := (List.take_append_drop n l).symm
theorem rpL_len {s : ByteArray} : (rpL s).length ≤ s.size + 1 := by
  unfold rpL
  have := pcs_len _ s (Nat.le_refl _)
  rw [List.length_append]
  split <;> simp <;> omega
end Go.Proofs.Ytehdgnnelabajaa
