/- Small laws for the walks and contracts of functions; each theorem names its conditions. -/
import Derived.Test.YthmcbjcgdfmmaaaGreatN25
import Derived.Test.YthmcbjcgdfmmaaaGreatN26
import Derived.Test.YthmcbjcgdfmmaaaGreatN34
import Derived.Test.YthmcbjcgdfmmaaaGreatN19
import Derived.Test.YthmcbjcgdfmmaaaGreatN17
set_option maxRecDepth 100000
set_option maxHeartbeats 2000000
namespace Go.Abs.Wall.Spl
open Go Go.Abs Go.Proofs Go.Abs.Wall
open Go.Abs.Wall.Lst (mM ed iX jo kT uj wZ Rb CN)
structure LS where
 T:List Int
 a:Int
 b:Int
 c:Int
 d:Int
end Go.Abs.Wall.Spl
namespace Go.Abs.Wall.Spl
open Go Go.Abs Go.Proofs Go.Abs.Wall
open Go.Abs.Wall.Lst (mM ed iX jo kT uj wZ Rb CN)
def encI (n:Int):List AV:=[.int .i64 n]
theorem zH (n:Int):(encI n).length=1:=rfl
end Go.Abs.Wall.Spl
