/- What is proved: small laws for the walks of this seat, and contracts of its functions. No condition but those each theorem names. -/
import Derived.Test.YtbmcnieifibckaaGreatN29
import Derived.Test.YtbmcnieifibckaaGreatN17
set_option maxRecDepth 100000
set_option maxHeartbeats 2000000
set_option linter.unusedVariables false
set_option linter.unusedSimpArgs false
namespace Go.Abs.Wall.Spl
open Go Go.Abs Go.Proofs Go.Abs.Wall
open Go.Abs.Wall.Lst (iR.pre ao.left)
theorem OZ (m:Nat):fo [] m=[]:=by unfold fo dJ aW;simp [pB,gen]
theorem Pa (most:Nat) (hm:most<=64):ae Tryz.prog 109 [.gZ,.int .i64 most] [] (.sl 1 none []):=by
 refine ae.of ?_;refine aG (F:=Tryz.f109) c109 rfl rfl rfl mixed rfl fun X=>?_;(conv=>whnf);skip;refine bR rfl mixed [0,1,5] [] (fun m r h=>r=[(0,[],.gZ),(1,[],.int .i64 most),(5,[],.aT)]/\h=[]/\m=0/\True) ?_ ?_
 ·(conv=>whnf);exact ⟨_,rfl,rfl,rfl,trivial⟩
 rintro m r h' ⟨rfl,rfl,rfl,-⟩;(conv=>whnf);skip;refine ⟨fun hz=>?_,fun hz=>?_⟩<;>simp at hz
 ·(conv=>whnf);skip;refine bR rfl mixed [0,1,5,6,7] [] (fun m r h=>r=[(0,[],.gZ),(1,[],.int .i64 most),(5,[],.aT),(6,[],.int .i64 (-1)),(7,[],.int .i64 0)]/\h=[]/\m=0/\True) ?_ ?_
  ·(conv=>whnf);exact ⟨_,rfl,rfl,rfl,trivial⟩
  rintro m r h' ⟨rfl,rfl,rfl,-⟩;(conv=>whnf);skip;refine ⟨fun fU=>absurd (of_decide_eq_true fU) (by omega),fun _=>?_⟩;(conv=>whnf);skip;refine ⟨fun _=>?_,fun bE=>absurd bE (by decide)⟩;(conv=>whnf);skip;exact ag.nil (by decide)
 (conv=>whnf);skip;exact ag.nil (by decide)
def Pb (L:List (List eD)) (v:AV) (hp:af):Prop:=(L=[]/\v=.gZ/\hp=[])\/∃ lb,L≠[]/\v=.aQ lb 0 L.length 1/\hp=[(lb,.vec (L.map gq).flatten)]
end Go.Abs.Wall.Spl
