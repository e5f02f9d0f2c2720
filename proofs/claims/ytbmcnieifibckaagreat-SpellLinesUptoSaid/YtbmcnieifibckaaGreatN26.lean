/- What is proved: small laws for the walks of this seat, and contracts of its functions. No condition but those each theorem names. -/
import Derived.Test.YtbmcnieifibckaaGreatN25
import Derived.Test.YtbmcnieifibckaaGreatN9
import Derived.Test.YtbmcnieifibckaaGreatN24
set_option maxRecDepth 100000
set_option maxHeartbeats 2000000
set_option linter.unusedVariables false
set_option linter.unusedSimpArgs false
namespace Go.Abs.Wall.Spl
open Go Go.Abs Go.Proofs Go.Abs.Wall
def c89:Cfg:=⟨[0,1,2],[],[],[],[],[]⟩
structure WrdFit (w:Wrd):Prop where
 cl:w.form.clitics.length≤1048576
 text:∀ u∈w.uses,u.text.length≤1048576
 us:w.uses.length≤1048576
theorem r7Long (u:Use):QCall Tryz.prog 89 [.agg (encUse u)] [] (.bool (hvU u)):=by
 refine fcalls (F:=Tryz.f89) c89 rfl rfl rfl mixed rfl fun X=>?_
 conv=>whnf
 skip
 exact ⟨rfl,rfl⟩
end Go.Abs.Wall.Spl
namespace Go.Abs.Wall.Spl
open Go Go.Abs Go.Proofs Go.Abs.Wall
end Go.Abs.Wall.Spl
