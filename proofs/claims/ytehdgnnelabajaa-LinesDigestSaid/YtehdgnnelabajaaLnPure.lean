/- Lines and the text that they join to. No program in sight. -/
import Derived.Test.YtehdgnnelabajaaLinPure
namespace Go.Proofs.Ytehdgnnelabajaa
open Go.RowKit

def joinL (l : List ByteArray) : List UInt8 := l.flatMap fun s => s.data.toList ++ [10]
/-- the fault and the text of Join -/
def jC (l : List ByteArray) : Int := if vC l = 0 then (if 4096 < (joinL l).length then 10 else 0) else vC l
def jI (l : List ByteArray) : Int := if vC l = 0 then (if 4096 < (joinL l).length then -1 else 0) else vI l
def jS (l : List ByteArray) : ByteArray := if jC l = 0 then ⟨(joinL l).toArray⟩ else ByteArray.empty

theorem joinL_nil : joinL [] = [] := rfl
theorem joinL_cons (s : ByteArray) (l : List ByteArray) : joinL (s :: l) = s.data.toList ++ 10 :: joinL l := by simp [joinL]
theorem joinL_append (l m : List ByteArray) : joinL (l ++ m) = joinL l ++ joinL m := by simp [joinL]
theorem joinL_take {l : List ByteArray} {k : Nat} (h : k < l.length) : joinL (l.take (k + 1)) = (joinL (l.take k) ++ (l.getD k ByteArray.empty).data.toList) ++ [10] := by
  rw [List.take_succ_eq_append_getElem h, joinL_append]
  have : l.getD k ByteArray.empty = l[k] := by rw [List.getD_eq_getElem?_getD, List.getElem?_eq_getElem h]; rfl
  rw [this]
  simp [joinL]
theorem joinL_take_le (l : List ByteArray) (k : Nat) : (joinL (l.take k)).length ≤ (joinL l).length := by
  have : joinL l = joinL (l.take k) ++ joinL (l.drop k) := by rw [← joinL_append, List.take_append_drop]
  rw [this, List.length_append]
  omega
theorem joinL_len {l : List ByteArray} (h : ∀ s ∈ l, s.size ≤ 80) : (joinL l).length ≤ 81 * l.length := by
  induction l with
  | nil => simp [joinL]
  | cons s l ih =>
    rw [joinL_cons]
    have h1 := h s (by simp)
    have h2 := ih fun q hq => h q (by simp [hq])
    have h3 : s.data.toList.length = s.size := rfl
    rw [List.length_append, List.length_cons, List.length_cons]
    omega
theorem joinL_len_take {l : List ByteArray} {k : Nat} (h : k < l.length) : (joinL (l.take (k + 1))).length = (joinL (l.take k)).length + (l.getD k ByteArray.empty).size + 1 := by
  rw [joinL_take h, List.length_append, List.length_append]
  rfl
end Go.Proofs.Ytehdgnnelabajaa
