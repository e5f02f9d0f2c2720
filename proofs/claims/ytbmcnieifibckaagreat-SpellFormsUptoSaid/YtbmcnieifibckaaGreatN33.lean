/- What is proved: small laws for the walks of this seat, and contracts of its functions. No condition but those each theorem names. -/
import Derived.Test.YtbmcnieifibckaaGreatN31
set_option maxRecDepth 100000
set_option maxHeartbeats 2000000
set_option linter.unusedVariables false
set_option linter.unusedSimpArgs false
namespace Go.Abs.Wall.Spl
open Go Go.Abs Go.Proofs Go.Abs.Wall Go.Proofs.YtbmcnieifibckaaGreat.Br
def linE (H:Hou) (B:Hab):List Frm→Int
 | []=>0
 | f::t=>if listE H B f 1≠0 then listE H B f 1 else linE H B t
def linS (H:Hou) (B:Hab) (l:List Frm):List Int:=(l.map fun f=>(bestS H B f).signs).flatten
def lineE (H:Hou) (B:Hab) (l:List Frm):Int:=if habErr H B≠0 then habErr H B else if 60<l.length then 2 else if linE H B l≠0 then linE H B l else if 60<(linS H B l).length then 2 else 0
def c6:Cfg:=⟨[0,1,2,3,4,6,7,8,9,10,11,12,24],[],[],[],[],[]⟩
end Go.Abs.Wall.Spl
