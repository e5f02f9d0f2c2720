/- What is proved: small laws for the walks of this seat, and contracts of its functions. No condition but those each theorem names. -/
import Derived.Test.YtbmcnieifibckaaGreatN35
import Derived.Test.YtbmcnieifibckaaGreatN31
import Derived.Test.YtbmcnieifibckaaGreatN24
import Derived.Test.YtbmcnieifibckaaGreatN8
set_option maxRecDepth 100000
set_option maxHeartbeats 2000000
set_option linter.unusedVariables false
set_option linter.unusedSimpArgs false
namespace Go.Abs.Wall.Spl
open Go Go.Abs Go.Proofs Go.Abs.Wall Go.Proofs.YtbmcnieifibckaaGreat.Br
open Go.Abs.Wall.Lst (ea cC eI fA gF gG mu Hh rM)
end Go.Abs.Wall.Spl
namespace Go.Abs.Wall.Spl
open Go Go.Abs Go.Proofs Go.Abs.Wall Go.Proofs.YtbmcnieifibckaaGreat.Br
theorem ZD {x:AV} (h:qQ Tryz.prog eC 84 x):∃ l:List (List Int),x=.sl 1 none (l.map rh)/\l.length<=1048576/\∀ a∈l,a.length<=1048576:=by
 obtain ⟨xs,h,hx⟩:=h;have hx:xs=[x]:=hx;obtain ⟨l,h1,h2,h3⟩:=xo (enc:=rh) (Fit:=fun l=>l.length<=eC) h rfl fun y hy=>by obtain ⟨l,rfl,hl,_⟩:=GP hy;exact ⟨l,rfl,hl⟩
 rw [hx] at h1;cases h1
 exact ⟨l,rfl,by unfold eC at h2;omega,fun a ha=>by have:=h3 a ha;unfold eC at this;omega⟩
end Go.Abs.Wall.Spl
