/- Common prefixes and suffixes of two lists; a part of a slice that is read. -/
import Derived.Test.YtdpcbffmmndhcaaDiffCommon
namespace Go.Proofs.Ytdpcbffmmndhcaa
open Go.RowKit

section
variable {α : Type}
/-- p is the length of the longest common prefix -/
def IsPre (a b : List α) (p : Nat) : Prop := p ≤ a.length ∧ p ≤ b.length ∧ a.take p = b.take p ∧ ∀ (h : p < a.length) (h' : p < b.length), a[p] ≠ b[p]
/-- p and s are the lengths of the longest common prefix and of the longest common suffix of the rest -/
def IsAff (a b : List α) (p s : Nat) : Prop := IsPre a b p ∧ IsPre (a.drop p).reverse (b.drop p).reverse s

theorem pre_step (a b : List α) (k : Nat) (h : k < a.length) (h' : k < b.length) (e : a.take k = b.take k) (q : a[k] = b[k]) : a.take (k + 1) = b.take (k + 1) := by
  rw [List.take_succ_eq_append_getElem h, List.take_succ_eq_append_getElem h', e, q]

theorem IsAff.parts {a b : List α} {p s : Nat} (h : IsAff a b p s) : p + s ≤ a.length ∧ p + s ≤ b.length ∧
    ∃ x m n y, a = x ++ (m ++ y) ∧ b = x ++ (n ++ y) ∧ m = (a.take (a.length - s)).drop p ∧ n = (b.take (b.length - s)).drop p := by
  obtain ⟨⟨h1, h2, h3, _⟩, ⟨k1, k2, k3, _⟩⟩ := h
  simp only [List.length_reverse, List.length_drop] at k1 k2
  have l1 : p + s ≤ a.length := by omega
  have l2 : p + s ≤ b.length := by omega
  refine ⟨l1, l2, a.take p, (a.take (a.length - s)).drop p, (b.take (b.length - s)).drop p, a.drop (a.length - s), ?_, ?_, rfl, rfl⟩
  · rw [← List.append_assoc]
    have : a.take p = (a.take (a.length - s)).take p := by rw [List.take_take, Nat.min_eq_left (by omega)]
    rw [this, List.take_append_drop, List.take_append_drop]
  · have e : a.drop (a.length - s) = b.drop (b.length - s) := by
      rw [List.take_reverse, List.take_reverse] at k3
      have := List.reverse_inj.1 k3
      rw [List.drop_drop, List.drop_drop, List.length_drop, List.length_drop] at this
      rwa [show p + (a.length - p - s) = a.length - s by omega, show p + (b.length - p - s) = b.length - s by omega] at this
    rw [h3, e, ← List.append_assoc]
    have : b.take p = (b.take (b.length - s)).take p := by rw [List.take_take, Nat.min_eq_left (by omega)]
    rw [this, List.take_append_drop, List.take_append_drop]
end

/-- a part of a row -/
theorem row_part {w : World} {ao : Option Addr} {xs : List Value} {n cap l h : Nat} (hr : Row w ao xs) (hx : xs.length = n) (hn : n ≤ cap) (hl : l ≤ h) (hh : h ≤ n) :
    Row w (if cap = l then ao else ao.map (·.add (l * 1))) ((xs.take h).drop l) := by
  intro i hi
  have hi' : l + i < xs.length := by simp at hi; omega
  have hi2 : i < h - l := by simp at hi; omega
  obtain ⟨b, off, rfl, hc⟩ := hr (l + i) hi'
  rw [if_neg (by omega)]
  refine ⟨b, off + l, by simp [addr_add], ?_⟩
  rw [show off + l + i = off + (l + i) by omega, hc]
  simp

theorem strs_part {w : World} {ao : Option Addr} {xs : List ByteArray} {cap l h : Nat} (hs : Strs w (.slice ao xs.length cap) xs) (hl : l ≤ h) (hh : h ≤ xs.length) :
    Strs w (.slice (if cap = l then ao else ao.map (·.add (l * 1))) (h - l) (cap - l)) ((xs.take h).drop l) := by
  obtain ⟨ao', cap', e, h1, h2, h3, h4⟩ := hs.sl
  injection e with e1 _ e3
  subst e1; subst e3
  refine Strs.of ⟨_, _, by rw [show ((xs.take h).drop l).length = h - l by simp; omega], ?_, ?_, ?_, ?_⟩ (fun s m => hs.2 s (List.mem_of_mem_take (List.mem_of_mem_drop m)))
  · simp; omega
  · omega
  · rw [List.map_drop, List.map_take]
    exact row_part h3 (by simp) h1 hl hh
  · intro hn
    split at hn
    · omega
    · cases ao with
      | none => have := h4 rfl; omega
      | some x => simp at hn
end Go.Proofs.Ytdpcbffmmndhcaa
