/- The walk of textpatch.Invert, with Copy, its closure and Made run in place. -/
import Derived.Test.YtppmhjaooiameaaDoorWxPat
import Derived.Test.YtppmhjaooiameaaDoorWxClone
namespace Go.Proofs.YtppmhjaooiameaaDoor
open Go.RowKit
set_option maxRecDepth 10000
set_option linter.unusedSimpArgs false

end Go.Proofs.YtppmhjaooiameaaDoor
