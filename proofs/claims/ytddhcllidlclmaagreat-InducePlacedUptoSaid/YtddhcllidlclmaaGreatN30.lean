/- What is proved: small laws for the walks of this seat, and contracts of its functions. No condition but those each theorem names. -/
import Derived.Test.YtddhcllidlclmaaGreatN25
import Derived.Test.YtddhcllidlclmaaGreatN4
set_option maxRecDepth 100000
set_option maxHeartbeats 2000000
set_option linter.unusedVariables false
set_option linter.unusedSimpArgs false
namespace Go.Abs.Wall.Lst
open Go Go.Abs Go.Proofs Go.Abs.Wall
theorem set_self {α:Type} {l:List α} {k:Nat} {v:α} (h:l[k]?=some v):l.set k v=l:=by
 refine List.ext_getElem? fun j=>?_
 rw [List.getElem?_set]
 by_cases e:k=j
 ·subst e
  rw [if_pos rfl,h]
  have:=(List.getElem?_eq_some_iff.1 h).1
  rw [if_pos this]
 ·rw [if_neg e]
end Go.Abs.Wall.Lst
namespace Go.Abs.Wall.Lst
open Go Go.Abs Go.Proofs Go.Abs.Wall
def c66:Cfg:=⟨[0,2,4],[],[],[],[],[]⟩
def c97:Cfg:=⟨[0,2],[],[],[],[],[]⟩
def c139:Cfg:=⟨[0,2,4,8,14],[],[],[],[],[]⟩
end Go.Abs.Wall.Lst
