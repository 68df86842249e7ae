/- The walk of the equality of patches. -/
import Derived.Test.YtppmhjaooiameaaWxEq
import Derived.Test.YtppmhjaooiameaaPatPure
namespace Go.Proofs.Ytppmhjaooiameaa
open Go.RowKit
set_option maxRecDepth 10000
set_option linter.unusedSimpArgs false

theorem hk_ext {a b : Hk} (h1 : a.1 = b.1) (h2 : a.2.1 = b.2.1) (h3 : a.2.2 = b.2.2) : a = b := Prod.ext h1 (Prod.ext h2 h3)
end Go.Proofs.Ytppmhjaooiameaa
