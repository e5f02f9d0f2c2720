/- What is proved: small laws for the walks of this seat, and contracts of its functions. No condition but those each theorem names. -/
import Derived.Test.YtddhcllidlclmaaGreatN23
import Derived.Test.YtddhcllidlclmaaGreatN17
set_option maxRecDepth 100000
set_option maxHeartbeats 2000000
set_option linter.unusedVariables false
set_option linter.unusedSimpArgs false
namespace Go.Abs.Wall.Lst
open Go Go.Abs Go.Proofs Go.Abs.Wall
def lnks (g:List (List Edg)):List (List Lnk):=g.map fun es=>es.map lnkOf
end Go.Abs.Wall.Lst
namespace Go.Abs.Wall.Lst
open Go Go.Abs Go.Proofs Go.Abs.Wall
theorem keepL_len (N:Nat) (w:Int→Bool):(keepL N w).length≤N:=by
 unfold keepL
 rw [List.length_map]
 exact filter_len N
end Go.Abs.Wall.Lst
