/- Comparison of faults. -/
import Derived.Test.YtgdlbpihkodeoaaSxTab
namespace Go.Proofs.Ytgdlbpihkodeoaa
open Go.RowKit

theorem eq_fault : Eq2 Try.prog 24 := by
  intro a b c d x y w
  constructor
  · simp [go_sem]
    by_cases h1 : a = c <;> by_cases h2 : b = d <;> simp [h1, h2]
  · simp [go_sem]
    by_cases h1 : a = c <;> by_cases h2 : b = d <;> simp [h1, h2]
end Go.Proofs.Ytgdlbpihkodeoaa
