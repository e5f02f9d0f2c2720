/- What is proved: small laws for the walks of this seat, and contracts of its functions. No condition but those each theorem names. -/
import Derived.Test.YtbmcnieifibckaaGreatN29
import Derived.Test.YtbmcnieifibckaaGreatN17
set_option maxRecDepth 100000
set_option maxHeartbeats 2000000
set_option linter.unusedVariables false
set_option linter.unusedSimpArgs false
namespace Go.Abs.Wall.Spl
open Go Go.Abs Go.Proofs Go.Abs.Wall
open Go.Abs.Wall.Lst (VssLe.pre Turn.left)
theorem mrgL_nil (m:Nat):mrgL [] m=[]:=by
 unfold mrgL clsK mgW
 simp [remGo,gen]
theorem mergeNil (most:Nat) (hm:most≤64):QCall Tryz.prog 109 [.nilO,.int .i64 most] [] (.sl 1 none []):=by
 refine QCall.of ?_
 refine fcalls (F:=Tryz.f109) c109 rfl rfl rfl mixed rfl fun X=>?_
 conv=>whnf
 skip
 refine sloop rfl mixed [0,1,5] [] (fun m r h=>r=[(0,[],.nilO),(1,[],.int .i64 most),(5,[],.nilS)]∧h=[]∧m=0∧True) ?_ ?_
 ·conv=>whnf
  exact ⟨_,rfl,rfl,rfl,trivial⟩
 ·rintro m r h' ⟨rfl,rfl,rfl,-⟩
  conv=>whnf
  skip
  refine ⟨fun hz=>?_,fun hz=>?_⟩<;>simp at hz
  ·conv=>whnf
   skip
   refine sloop rfl mixed [0,1,5,6,7] [] (fun m r h=>r=[(0,[],.nilO),(1,[],.int .i64 most),(5,[],.nilS),(6,[],.int .i64 (-1)),(7,[],.int .i64 0)]∧h=[]∧m=0∧True) ?_ ?_
   ·conv=>whnf
    exact ⟨_,rfl,rfl,rfl,trivial⟩
   ·rintro m r h' ⟨rfl,rfl,rfl,-⟩
    conv=>whnf
    skip
    refine ⟨fun hz2=>absurd (of_decide_eq_true hz2) (by omega),fun _=>?_⟩
    conv=>whnf
    skip
    refine ⟨fun _=>?_,fun hz3=>absurd hz3 (by decide)⟩
    conv=>whnf
    skip
    exact VLe.nil (by decide)
  ·conv=>whnf
   skip
   exact VLe.nil (by decide)
def ORow (L:List (List Rst)) (v:AV) (hp:Heap):Prop:=(L=[]∧v=.nilO∧hp=[])∨∃ lb,L≠[]∧v=.osl lb 0 L.length 1∧hp=[(lb,.vec (L.map encS).flatten)]
end Go.Abs.Wall.Spl
