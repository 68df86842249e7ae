/- What the walks need of the program besides: comparison of faults, IndexByte. -/
import Derived.Test.YtppmhjaooiameaaDoorSxTab
import Derived.Test.YtppmhjaooiameaaDoorShelf
import Derived.Test.YtppmhjaooiameaaDoorLinPure
namespace Go.Proofs.YtppmhjaooiameaaDoor
open Go.RowKit
set_option maxRecDepth 20000

@[reducible] def tHk : Ty := .st (.pair (.int .i64) (.pair (.slice .str) (.slice .str)))
@[reducible] def tPat : Ty := .st (.slice tHk)
theorem eq_fault : Eq2 Tryd.prog 27 := by
  intro a b c d x y w
  constructor
  · simp [go_sem]
    by_cases h1 : a = c <;> by_cases h2 : b = d <;> simp [h1, h2]
  · simp [go_sem]
    by_cases h1 : a = c <;> by_cases h2 : b = d <;> simp [h1, h2]
theorem indexByte_le (l : List UInt8) (c : UInt8) : Lib.indexByte l c ≤ l.length := by
  induction l with
  | nil => simp [Lib.indexByte]
  | cons b l ih =>
    unfold Lib.indexByte
    simp only [List.length_cons]
    split
    · omega
    · split <;> omega
theorem IndexByte_sp : SpFact 60 (pureSp false [.str, .int .u8] (fun _ => True) (fun x => .v false [.d (.int .i64) (Lib.indexByte x.1.data.toList x.2.1.toNat.toUInt8)])) := by
  refine ⟨⟨_, rfl, rfl, rfl, callsSp_ok (fun _ _ => rfl) ?_⟩, pureSp_loc _ _ _ _⟩
  rintro ⟨s, c, u⟩ w G A vals ⟨hs, -⟩ - ha
  obtain ⟨v1, r1, rfl, h1, v2, r2, rfl, h2, rfl⟩ := ha
  have h1 := AV.one_rel (x := .v false [.d .str s]) rfl h1
  have h2 := AV.one_rel (x := .v false [.d (.int .u8) c]) rfl h2
  obtain ⟨h1, h1'⟩ := h1
  obtain ⟨h2, h2'⟩ := h2
  cases h1
  cases h2
  refine Calls.mono (Tryd.strings_IndexByte s c w) ?_
  rintro e w' ⟨rfl, rfl⟩
  refine ⟨_, rfl, Only.refl _ _, AV.rel_of ⟨rfl, ?_⟩⟩
  have hs : s.size ≤ maxLen := hs
  rw [maxLen_eq] at hs
  have hlen : s.data.toList.length = s.size := by rw [Array.length_toList]; rfl
  have g1 := Lib.indexByte_ge s.data.toList c.toNat.toUInt8
  have g2 := indexByte_le s.data.toList c.toNat.toUInt8
  show -9223372036854775808 ≤ Lib.indexByte s.data.toList c.toNat.toUInt8 ∧ Lib.indexByte s.data.toList c.toNat.toUInt8 ≤ 9223372036854775807
  omega
end Go.Proofs.YtppmhjaooiameaaDoor
