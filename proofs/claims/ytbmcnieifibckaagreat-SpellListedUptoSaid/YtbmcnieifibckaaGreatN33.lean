/- What is proved: small laws for the walks of this seat, and contracts of its functions. No condition but those each theorem names. -/
import Derived.Test.YtbmcnieifibckaaGreatN31
set_option maxRecDepth 100000
set_option maxHeartbeats 2000000
set_option linter.unusedVariables false
set_option linter.unusedSimpArgs false
namespace Go.Abs.Wall.Spl
open Go Go.Abs Go.Proofs Go.Abs.Wall Go.Proofs.YtbmcnieifibckaaGreat.Br
def Kd (H:ax) (B:bX):List bc->Int
 | []=>0
 | f::t=>if iT H B f 1≠0 then iT H B f 1 else Kd H B t
def XN (H:ax) (B:bX) (l:List bc):List Int:=(l.map fun f=>(Wz H B f).aB).flatten
def Ak (H:ax) (B:bX) (l:List bc):Int:=if oA H B≠0 then oA H B else if 60<l.length then 2 else if Kd H B l≠0 then Kd H B l else if 60<(XN H B l).length then 2 else 0
def c6:aw:=⟨[0,1,2,3,4,6,7,8,9,10,11,12,24],[],[],[],[],[]⟩
end Go.Abs.Wall.Spl
