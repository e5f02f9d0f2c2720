/- What is proved: small laws for the walks of this seat, and contracts of its functions. No condition but those each theorem names. -/
import Derived.Test.YtddhcllidlclmaaGreatN9
import Derived.Test.YtddhcllidlclmaaGreatN7
import Derived.Test.YtddhcllidlclmaaGreatN10
set_option maxRecDepth 100000
set_option maxHeartbeats 2000000
set_option linter.unusedVariables false
set_option linter.unusedSimpArgs false
namespace Go.Abs.Wall
open Go Go.Abs Go.Proofs
end Go.Abs.Wall
namespace Go.Abs.Wall
open Go Go.Abs Go.Proofs
structure EdgOK (n i:Nat) (x:Edg):Prop where
 to:x.to=i+x.word.uses.length
 lo:(i:Int)<x.to
 hi:x.to≤n
 cost:0≤x.cost∧x.cost≤18000
 fit:WrdFit x.word
structure GOK (g:List (List Edg)):Prop where
 few:g.length≤60
 many:∀ (i:Nat) es,g[i]?=some es→es.length≤2000
 edge:∀ (i:Nat) es,g[i]?=some es→∀ x∈es,EdgOK g.length i x
theorem graphM_len (H:Hou) (line:List Int):(graphM H line).length=line.length:=by simp [graphM]
theorem graphM_get {H:Hou} {line:List Int} {i:Nat} (hi:i<line.length):(graphM H line)[i]?=some (edgsAt H line i):=by rw [graphM,List.getElem?_map,List.getElem?_range hi];rfl
theorem growOK {H:Hou} {line:List Int} (h:growErr H line=0):LineOK H line∧sumL (graphM H line)≤2000∧GOK (graphM H line):=by
 unfold growErr at h
 split at h
 ·rename_i h1;exact absurd h h1
 rename_i h1
 split at h
 ·cases h
 rename_i h2
 have hL:=lineOK (H:=H) (line:=line) (by simpa using h1)
 refine ⟨hL,by omega,⟨by rw [graphM_len];exact hL.few,fun i es hes=>?_,fun i es hes x hx=>?_⟩⟩
 ·have h3:=sumL_take (g:=graphM H line) (i+1)
  rw [take_snoc hes,sumL_snoc] at h3
  omega
 ·have hi:i<line.length:=by have:=(List.getElem?_eq_some_iff.1 hes).1;rwa [graphM_len] at this
  rw [graphM_get hi] at hes
  cases hes
  obtain ⟨ha,hb,hc⟩:=edgsAt_mem hL.hou hL.signs (by omega) x hx
  have:=ha.to
  have:=ha.some
  have h5:=ha.cl
  have h6:=ha.few
  exact ⟨ha.to,by omega,by rw [graphM_len];omega,hc,⟨by omega,by omega⟩⟩
end Go.Abs.Wall
namespace Go.Abs.Wall
open Go Go.Abs Go.Proofs
theorem getD_of {α:Type} {l:List α} {i:Nat} {x d:α} (h:l[i]?=some x):l.getD i d=x:=by rw [List.getD_eq_getElem?_getD,h];rfl
theorem GOK.costs {g:List (List Edg)} (h:GOK g):∀ es∈g,∀ x∈es,0≤x.cost∧x.cost≤18000:=by
 intro es hes x hx
 obtain ⟨i,hi⟩:=List.mem_iff_getElem?.1 hes
 exact (h.edge i es hi x hx).cost
theorem GOK.rest {g:List (List Edg)} (h:GOK g) (i:Nat) (hi:i≤g.length):-1≤restV g i∧restV g i≤1080000:=by
 have h1:=restT_get g i hi
 have h2:=restT_bound g h.costs _ (List.mem_of_getElem? h1)
 have:=h.few
 omega
end Go.Abs.Wall
namespace Go.Abs.Wall
open Go Go.Abs Go.Proofs
end Go.Abs.Wall
