/- What is proved: small laws for the walks of this seat, and contracts of its functions. No condition but those each theorem names. -/
import Derived.Test.YtbmcnieifibckaaGreatN9
import Derived.Test.YtbmcnieifibckaaGreatN7
import Derived.Test.YtbmcnieifibckaaGreatN10
set_option maxRecDepth 100000
set_option maxHeartbeats 2000000
set_option linter.unusedVariables false
set_option linter.unusedSimpArgs false
namespace Go.Abs.Wall
open Go Go.Abs Go.Proofs
structure Vld where
 cost:Int
 at_:Int
 err:Int
deriving DecidableEq
structure WsFit (ws:List Wrd):Prop where
 many:ws.length≤1048576
 cl:∀ w∈ws,w.form.clitics.length≤1048576
 us:∀ w∈ws,w.uses.length≤1048576
 text:∀ w∈ws,∀ u∈w.uses,u.text.length≤1048576
end Go.Abs.Wall
namespace Go.Abs.Wall
open Go Go.Abs Go.Proofs
structure EdgOK (n i:Nat) (x:Edg):Prop where
 to:x.to=i+x.word.uses.length
 lo:(i:Int)<x.to
 hi:x.to≤n
 cost:0≤x.cost∧x.cost≤18000
 fit:WrdFit x.word
structure GOK (g:List (List Edg)):Prop where
 few:g.length≤60
 many:∀ (i:Nat) es,g[i]?=some es→es.length≤2000
 edge:∀ (i:Nat) es,g[i]?=some es→∀ x∈es,EdgOK g.length i x
end Go.Abs.Wall
namespace Go.Abs.Wall
open Go Go.Abs Go.Proofs
theorem getD_of {α:Type} {l:List α} {i:Nat} {x d:α} (h:l[i]?=some x):l.getD i d=x:=by rw [List.getD_eq_getElem?_getD,h];rfl
theorem GOK.costs {g:List (List Edg)} (h:GOK g):∀ es∈g,∀ x∈es,0≤x.cost∧x.cost≤18000:=by
 intro es hes x hx
 obtain ⟨i,hi⟩:=List.mem_iff_getElem?.1 hes
 exact (h.edge i es hi x hx).cost
theorem GOK.rest {g:List (List Edg)} (h:GOK g) (i:Nat) (hi:i≤g.length):-1≤restV g i∧restV g i≤1080000:=by
 have h1:=restT_get g i hi
 have h2:=restT_bound g h.costs _ (List.mem_of_getElem? h1)
 have:=h.few
 omega
end Go.Abs.Wall
namespace Go.Abs.Wall
open Go Go.Abs Go.Proofs
end Go.Abs.Wall
