/- What holds of the library's tables: in a seat with strconv's table of powers, that it stands; else nothing. -/
import Derived.Test.YtgdlbpihkodeoaaOnly
namespace Go.Proofs.Ytgdlbpihkodeoaa
open Go.RowKit
def Tb (_ : World) : Prop := True
theorem Tb_all {W : World} : ∀ w, Below W.heap.size W w → Tb w := fun _ _ => trivial
end Go.Proofs.Ytgdlbpihkodeoaa
