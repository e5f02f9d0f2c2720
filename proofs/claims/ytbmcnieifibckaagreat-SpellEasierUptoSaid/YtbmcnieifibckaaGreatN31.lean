/- What is proved: small laws for the walks of this seat, and contracts of its functions. No condition but those each theorem names. -/
import Derived.Test.YtbmcnieifibckaaGreatN8
import Derived.Test.YtbmcnieifibckaaGreatN24
import Derived.Test.YtbmcnieifibckaaGreatN25
import Derived.Test.YtbmcnieifibckaaGreatN10
import Derived.Test.YtbmcnieifibckaaGreatN30
set_option maxRecDepth 100000
set_option maxHeartbeats 2000000
set_option linter.unusedVariables false
set_option linter.unusedSimpArgs false
namespace Go.Abs.Wall.Spl
open Go Go.Abs Go.Proofs Go.Abs.Wall Go.Proofs.YtbmcnieifibckaaGreat.Br
structure Ask where
 form:Frm
 most:Int
def encAsk (a:Ask):List AV:=encFrm a.form++[.int .i64 a.most]
theorem argAsk {x:AV} (h:ArgSh Tryz.prog B20 40 x):∃ a:Ask,x=.agg (encAsk a)∧a.form.clitics.length≤B20∧IntKind.i64.has a.most:=by
 obtain ⟨xs,h,hx⟩:=h
 have hx:x=.agg xs:=hx
 subst hx
 obtain ⟨ps,rfl,hp⟩:=sh_struct h rfl
 obtain ⟨x,y,rfl,h1,h2⟩:=sh2 hp
 obtain ⟨f,rfl,hf⟩:=shFrm h1
 obtain ⟨n,rfl,hn⟩:=shInt h2
 exact ⟨⟨f,n⟩,by unfold encAsk;simp,hf,hn⟩
def heavS (H:Hou) (line:List Int):Bool:=(decide (24<(H.list.signs.length:Int))&&decide ((H.list.signs.length:Int)≤200))||largeM H line
def c17:Cfg:=⟨[0,1,2,4],[],[],[],[],[]⟩
theorem heavyW (H:Hou) (line:List Int):QCall Tryz.prog 17 [.agg (encHou H),.sl 1 none (ints line)] [] (.bool (heavS H line)):=by
 have he:heavS H line=((decide (24<((H.list.signs.map encSgn).length:Int))&&decide (((H.list.signs.map encSgn).length:Int)≤200))||largeM H line):=by unfold heavS;rw [List.length_map]
 rw [he]
 refine fcalls (F:=Tryz.f17) c17 rfl rfl rfl mixed rfl fun X=>?_
 conv=>whnf
 repeat (refine gcall (largeW H line) ?_;conv=>whnf)
 exact ⟨rfl,rfl⟩
theorem heavyNil (H:Hou):QCall Tryz.prog 17 [.agg (encHou H),.nilS] [] (.bool (heavS H [])):=QCall.args (heavyW H []) (.cons (VLe.refl _) (.cons (VLe.nil (by decide)) .nil))
end Go.Abs.Wall.Spl
namespace Go.Abs.Wall.Spl
open Go Go.Abs Go.Proofs Go.Abs.Wall Go.Proofs.YtbmcnieifibckaaGreat.Br
def c3:Cfg:=⟨[0,1,2,3,4,5,6,7,8,9,10,11,12,13,15,46,50,62],[],[12,13],[],[(10,[0,1,2,3,4,5,6,7,8,9],[])],[]⟩
end Go.Abs.Wall.Spl
