/- The walk of textpatch.Invert, with Copy, its closure and Made run in place. -/
import Derived.Test.YtppmhjaooiameaaWxPat
import Derived.Test.YtppmhjaooiameaaWxClone
namespace Go.Proofs.Ytppmhjaooiameaa
open Go.RowKit
set_option maxRecDepth 10000
set_option linter.unusedSimpArgs false

end Go.Proofs.Ytppmhjaooiameaa
