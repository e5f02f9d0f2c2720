/- What is proved: small laws for the walks of this seat, and contracts of its functions. No condition but those each theorem names. -/
import Derived.Test.YtbmcnieifibckaaGreatN37
import Derived.Test.YtbmcnieifibckaaGreatN30
import Derived.Test.YtbmcnieifibckaaGreatN33
set_option maxRecDepth 100000
set_option maxHeartbeats 2000000
set_option linter.unusedVariables false
set_option linter.unusedSimpArgs false
namespace Go.Abs.Wall.Spl
open Go Go.Abs Go.Proofs Go.Abs.Wall
open Go.Abs.Wall.Lst (lK ew fx jk gA jH pk rZ)
end Go.Abs.Wall.Spl
namespace Go.Abs.Wall.Spl
open Go Go.Abs Go.Proofs Go.Abs.Wall
open Go.Abs.Wall.Lst (lK ew fx jk gA jH pk rZ xY Er Es xX zw)
end Go.Abs.Wall.Spl
