/- A slice of strings among the arguments, as a list of strings. -/
import Derived.Test.YtdpcbffmmndhcaaRows
import Derived.Test.YtdpcbffmmndhcaaBase
import Derived.SizedLaws
namespace Go.Proofs.Ytdpcbffmmndhcaa
open Go.ChangeShapes Go.WideShapes Go.ChangeAt Go.RowKit

theorem bytes9 : Try.prog.bytesOf 9 = 16 := by kernel_rfl

set_option maxRecDepth 100000 in
theorem strs_of_trod {H : Type} {enc : TypeId × Value → H} {W : World} {fuel : Nat} {ao : Option Addr} {len cap : Nat} {x : DataW H × List MemPlace}
    (hf : DataW.trod enc Try.prog W 0 (fun _ => true) true fuel 22 [.slice ao len cap] = some x) :
    ∃ l : List ByteArray, Strs W (.slice ao len cap) l ∧ ((ao = none ∧ l = []) ∨ ∃ elems spare, x.1 = .slice elems spare ∧ elems.length = l.length ∧ elems = strs l) := by
  rcases open_strings Try.underlying22 Try.underlying9 (by kernel_rfl) hf with ⟨hcs, hx⟩ | ⟨a, len', cap', ss, hcs, _, hl, hm, hz, hx, hcell, hws⟩
  · simp at hcs
    obtain ⟨rfl, rfl, rfl⟩ := hcs
    exact ⟨[], Strs.nil W, .inl ⟨rfl, rfl⟩⟩
  · simp at hcs
    obtain ⟨rfl, rfl, rfl⟩ := hcs
    have hz : ss.length = cap := by simpa using hz
    have hlen : (ss.take len).length = len := by rw [List.length_take]; omega
    refine ⟨ss.take len, ⟨⟨some a, cap, ?_, ?_, hm, ?_, fun h => by cases h⟩, fun s hs => hws s (List.mem_of_mem_take hs)⟩, .inr ⟨_, _, by rw [hx], ?_, rfl⟩⟩
    · rw [List.length_map, hlen]
    · rw [List.length_map, hlen]; exact hl
    · refine row_of_add (n := cap) ?_ (by rw [List.length_map, hlen]; exact hl)
      intro i hi
      refine ⟨_, hcell i (by omega), fun hx => ?_⟩
      simp only [List.length_map, hlen] at hx
      simp [List.getD, List.getElem?_eq_getElem (show i < ss.length by omega)]
    · simp [strs]

set_option maxRecDepth 100000 in
theorem open_strs {H : Type} {enc : TypeId × Value → H} {W : World} {b0 : Nat} {ts : List TypeId} {ds : List (DataW H)} {j : Nat} {v : Value} {d : DataW H} {p : List MemPlace}
    (hv : Value.okWide Try.prog W .any b0 22 v) (h : DataW.Trod enc Try.prog W 0 (fun _ => true) true 22 v d p)
    (hsz : (DataW.weightsEach Try.prog ts ds).all (· ≤ reachBytes) = true) (ht : ts[j]? = some 22) (hd : ds[j]? = some d) :
    ∃ l : List ByteArray, Strs W v l ∧ l.length * 16 ≤ 140737488351232 := by
  obtain ⟨ao, len, cap, rfl⟩ := okWide_slice Try.underlying22 hv
  obtain ⟨fuel, hf⟩ := h
  obtain ⟨l, h1, h2⟩ := strs_of_trod (x := (d, p)) hf
  refine ⟨l, h1, ?_⟩
  rcases h2 with ⟨_, rfl⟩ | ⟨elems, spare, e1, e2, _⟩
  · decide
  · have e1 : d = .slice elems spare := e1
    subst e1
    have hs := sized_slice hsz ht hd Try.underlying22
    rw [bytes9] at hs
    simp only [reachBytes] at hs
    omega
end Go.Proofs.Ytdpcbffmmndhcaa
