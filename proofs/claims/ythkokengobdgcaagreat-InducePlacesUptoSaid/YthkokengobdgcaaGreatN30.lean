/- What is proved: small laws for the walks of this seat, and contracts of its functions. No condition but those each theorem names. -/
import Derived.Test.YthkokengobdgcaaGreatN25
import Derived.Test.YthkokengobdgcaaGreatN4
import Derived.Test.YthkokengobdgcaaGreatN29
set_option maxRecDepth 100000
set_option maxHeartbeats 2000000
set_option linter.unusedVariables false
set_option linter.unusedSimpArgs false
namespace Go.Abs.Wall.Lst
open Go Go.Abs Go.Proofs Go.Abs.Wall
def Seen (es:List (Int × Int)) (p:Int→Prop):Prop:=∀ e,(lookA e es).getD 0=1↔p e
theorem Seen.set {es:List (Int × Int)} {p q:Int→Prop} {x:Int} (h:Seen es p) (hq:∀ e,q e↔p e∨e=x):Seen (setA x 1 es) q:=by
 intro e
 rw [lookSet,hq]
 by_cases he:e=x
 ·rw [if_pos he];simp [he]
 ·rw [if_neg he,h e];simp [he]
theorem set_self {α:Type} {l:List α} {k:Nat} {v:α} (h:l[k]?=some v):l.set k v=l:=by
 refine List.ext_getElem? fun j=>?_
 rw [List.getElem?_set]
 by_cases e:k=j
 ·subst e
  rw [if_pos rfl,h]
  have:=(List.getElem?_eq_some_iff.1 h).1
  rw [if_pos this]
 ·rw [if_neg e]
theorem Seen.congr {es:List (Int × Int)} {p q:Int→Prop} (h:Seen es p) (hq:∀ e,q e↔p e):Seen es q:=fun e=>(h e).trans (hq e).symm
end Go.Abs.Wall.Lst
namespace Go.Abs.Wall.Lst
open Go Go.Abs Go.Proofs Go.Abs.Wall
def c150:Cfg:=⟨[0,2,4],[],[],[],[],[]⟩
def c138:Cfg:=⟨[0,2],[],[],[],[],[]⟩
def c197:Cfg:=⟨[0,2,4,8,14],[],[],[],[],[]⟩
end Go.Abs.Wall.Lst
namespace Go.Abs.Wall.Lst
open Go Go.Abs Go.Proofs Go.Abs.Wall
end Go.Abs.Wall.Lst
