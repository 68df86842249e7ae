/- A slice of bytes among the arguments, as a list of bytes. -/
import Derived.Test.YtkokleicgpimbaaRows
import Derived.Test.YtkokleicgpimbaaBase
import Derived.SizedLaws
namespace Go.Proofs.Ytkokleicgpimbaa
open Go.ChangeShapes Go.WideShapes Go.ChangeAt Go.RowKit

theorem bytes5 : Try.prog.bytesOf 5 = 1 := by kernel_rfl

theorem u8s_of_ints (zs : List Int) (h : ∀ n ∈ zs, (Lit.int .u8 n).wf = true) : (zs.map fun z => UInt8.ofNat z.toNat).map u8v = zs.map (Value.int .u8) := by
  rw [List.map_map]
  apply List.map_congr_left
  intro z hz
  have hw := h z hz
  have hb : 0 ≤ z ∧ z ≤ 255 := by simpa [Lit.wf, IntKind.min, IntKind.max, IntKind.signed, IntKind.bits] using hw
  simp only [Function.comp, u8v]
  congr 1
  have : (UInt8.ofNat z.toNat).toNat = z.toNat := by
    rw [UInt8.toNat_ofNat']; exact Nat.mod_eq_of_lt (by omega)
  rw [this]; omega

theorem open_u8s {H : Type} {enc : TypeId × Value → H} {W : World} {b0 : Nat} {ts : List TypeId} {ds : List (DataW H)} {j : Nat} {v : Value} {d : DataW H} {p : List MemPlace}
    (hv : Value.okWide Try.prog W .any b0 22 v) (h : DataW.Trod enc Try.prog W 0 (fun _ => true) true 22 v d p)
    (hsz : (DataW.weightsEach Try.prog ts ds).all (· ≤ reachBytes) = true) (ht : ts[j]? = some 22) (hd : ds[j]? = some d) :
    ∃ l : List UInt8, U8s W v l ∧ l.length ≤ 140737488351232 := by
  obtain ⟨ao, len, cap, rfl⟩ := okWide_slice Try.underlying22 hv
  obtain ⟨fuel, hf⟩ := h
  rcases open_ints Try.underlying22 Try.underlying5 (by kernel_rfl) hf with ⟨hcs, hx⟩ | ⟨a, len', cap', zs, hcs, _, hl, hm, hz, hx, hcell, hwz⟩
  · simp [Value.cells] at hcs
    obtain ⟨rfl, rfl, rfl⟩ := hcs
    exact ⟨[], Sl.nil W, by decide⟩
  · simp [Value.cells] at hcs
    obtain ⟨rfl, rfl, rfl⟩ := hcs
    have hz : zs.length = cap := by simpa using hz
    simp only [Prod.mk.injEq] at hx
    obtain ⟨rfl, _⟩ := hx
    have hs := sized_slice hsz ht hd Try.underlying22
    rw [bytes5] at hs
    simp only [lits, List.length_map, List.length_take, List.length_drop, reachBytes] at hs
    have hlen : ((zs.take len).map fun z => UInt8.ofNat z.toNat).length = len := by simp; omega
    refine ⟨(zs.take len).map fun z => UInt8.ofNat z.toNat, ⟨some a, cap, ?_, ?_, hm, ?_, fun h => by cases h⟩, by omega⟩
    · rw [List.length_map, hlen]
    · rw [List.length_map, hlen]; exact hl
    · rw [u8s_of_ints _ (fun n hn => hwz n (List.mem_of_mem_take hn))]
      intro i hi
      have hi' : i < len := by simp at hi; omega
      have hc := hcell i (by omega)
      have hlt : i < zs.length := by omega
      rcases a with ⟨b, off, spot⟩
      have hspot : spot = none ∨ i = 0 ∨ True := by simp
      have key : (⟨b, off, spot⟩ : Addr).add i = ⟨b, off + i, if i = 0 then spot else none⟩ := by
        unfold Addr.add; split <;> simp_all
      have hs0 : spot = none := by
        have h0 := hcell 0 (by omega)
        have : (⟨b, off, spot⟩ : Addr).add 0 = ⟨b, off, spot⟩ := by simp [Addr.add]
        rw [this] at h0
        unfold World.cell? at h0
        split at h0
        · cases spot with
          | none => rfl
          | some x => simp at h0
        · cases h0
      subst hs0
      rw [addr_add] at hc
      refine ⟨b, off, rfl, hc.trans ?_⟩
      simp [List.getD, List.getElem?_eq_getElem hlt]
end Go.Proofs.Ytkokleicgpimbaa
