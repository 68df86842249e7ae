/- What holds of the library's tables: in a seat with strconv's table of powers, that it stands; else nothing. -/
import Derived.Test.YtppmhjaooiameaaDoorOnly
import Derived.Lib.LaidTab
import Derived.Lib.ItoaNum
import Derived.Test.YtppmhjaooiameaaDoorProg
namespace Go.Proofs.YtppmhjaooiameaaDoor
open Go.RowKit
/-- strconv's table of powers stands; the variable number 0 (bytealg.MaxLen) holds an int -/
def Tb (w : World) : Prop := Lib.TabIs Tryd.prog w "internal/strconv.uint64pow10" .u64 Lib.pow10Tab ∧ ∃ m, w.cell? ⟨0, 0, none⟩ = some (.int .i64 m)
theorem Tb_below {W : World} (h : Tb W) : ∀ w, Below W.heap.size W w → Tb w := fun w' hb => by
  obtain ⟨h, m, hm⟩ := h
  refine ⟨?_, m, ?_⟩
  · unfold Lib.TabIs World.var? at *
    cases hg : Tryd.prog.globalNamed "internal/strconv.uint64pow10" with
    | none => simp [hg] at h
    | some g =>
      simp only [hg, Option.bind_some] at h ⊢
      have hlt : g < W.heap.size := by
        rcases Nat.lt_or_ge g W.heap.size with h' | h'
        · exact h'
        · rw [Array.getElem?_eq_none h'] at h; simp at h
      rw [hb.block g hlt]
      exact h
  · have h0 : 0 < W.heap.size := cell_lt hm
    exact (show w'.cell? ⟨0, 0, none⟩ = W.cell? ⟨0, 0, none⟩ from by simp [World.cell?, hb.block 0 h0]).trans hm
end Go.Proofs.YtppmhjaooiameaaDoor
