/- What is proved: small laws for the walks of this seat, and contracts of its functions. No condition but those each theorem names. -/
import Derived.Test.YtmkmflcemegikaaGreatDoorN9
import Derived.Test.YtmkmflcemegikaaGreatDoorN7
import Derived.Test.YtmkmflcemegikaaGreatDoorN10
set_option maxRecDepth 100000
set_option maxHeartbeats 2000000
set_option linter.unusedVariables false
set_option linter.unusedSimpArgs false
namespace Go.Abs.Wall
open Go Go.Abs Go.Proofs
end Go.Abs.Wall
namespace Go.Abs.Wall
open Go Go.Abs Go.Proofs
structure EdgOK (n i:Nat) (x:Edg):Prop where
 to:x.to=i+x.word.uses.length
 lo:(i:Int)<x.to
 hi:x.to≤n
 cost:0≤x.cost∧x.cost≤18000
 fit:WrdFit x.word
structure GOK (g:List (List Edg)):Prop where
 few:g.length≤60
 many:∀ (i:Nat) es,g[i]?=some es→es.length≤2000
 edge:∀ (i:Nat) es,g[i]?=some es→∀ x∈es,EdgOK g.length i x
theorem graphM_len (H:Hou) (line:List Int):(graphM H line).length=line.length:=by simp [graphM]
theorem graphM_get {H:Hou} {line:List Int} {i:Nat} (hi:i<line.length):(graphM H line)[i]?=some (edgsAt H line i):=by rw [graphM,List.getElem?_map,List.getElem?_range hi];rfl
theorem growOK {H:Hou} {line:List Int} (h:growErr H line=0):LineOK H line∧sumL (graphM H line)≤2000∧GOK (graphM H line):=by
 unfold growErr at h
 split at h
 ·rename_i h1;exact absurd h h1
 rename_i h1
 split at h
 ·cases h
 rename_i h2
 have hL:=lineOK (H:=H) (line:=line) (by simpa using h1)
 refine ⟨hL,by omega,⟨by rw [graphM_len];exact hL.few,fun i es hes=>?_,fun i es hes x hx=>?_⟩⟩
 ·have h3:=sumL_take (g:=graphM H line) (i+1)
  rw [take_snoc hes,sumL_snoc] at h3
  omega
 ·have hi:i<line.length:=by have:=(List.getElem?_eq_some_iff.1 hes).1;rwa [graphM_len] at this
  rw [graphM_get hi] at hes
  cases hes
  obtain ⟨ha,hb,hc⟩:=edgsAt_mem hL.hou hL.signs (by omega) x hx
  have:=ha.to
  have:=ha.some
  have h5:=ha.cl
  have h6:=ha.few
  exact ⟨ha.to,by omega,by rw [graphM_len];omega,hc,⟨by omega,by omega⟩⟩
end Go.Abs.Wall
namespace Go.Abs.Wall
open Go Go.Abs Go.Proofs
def encB (b:Bool):List AV:=[.bool b]
theorem encB_len:∀ b,(encB b).length=1:=fun _=>rfl
def markK (want:Nat→Nat→Bool) (a:Nat):List Edg→Nat→List Bool→List Bool
 | [],_,l=>l
 | x::t,k,l=>markK want a t (k+1) (if (l.getD a false&&want a k)=true then l.set x.to.toNat true else l)
def reachGo (want:Nat→Nat→Bool):List (List Edg)→Nat→List Bool→List Bool
 | [],_,l=>l
 | es::g,i,l=>reachGo want g (i+1) (markK want i es 0 l)
def reachM (g:List (List Edg)) (want:Nat→Nat→Bool):List Bool:=reachGo want g 0 ((List.replicate (g.length+1) false).set 0 true)
theorem markK_len (want:Nat→Nat→Bool) (a:Nat):∀ (es:List Edg) (k:Nat) (l:List Bool),(markK want a es k l).length=l.length
 | [],_,l=>rfl
 | x::t,k,l=>by
   unfold markK
   rw [markK_len want a t]
   split<;>simp
theorem reachGo_len (want:Nat→Nat→Bool):∀ (g:List (List Edg)) (i:Nat) (l:List Bool),(reachGo want g i l).length=l.length
 | [],_,l=>rfl
 | es::g,i,l=>by unfold reachGo;rw [reachGo_len want g,markK_len]
theorem reachM_len (g:List (List Edg)) (want:Nat→Nat→Bool):(reachM g want).length=g.length+1:=by unfold reachM;rw [reachGo_len];simp
theorem getD_of {α:Type} {l:List α} {i:Nat} {x d:α} (h:l[i]?=some x):l.getD i d=x:=by rw [List.getD_eq_getElem?_getD,h];rfl
theorem boolRow0 (n:Nat):repC n [AV.bool false]=((List.replicate n false).map encB).flatten:=by
 rw [repC_one]
 induction n with
 | zero=>rfl
 | succ n ih=>rw [List.replicate_succ,List.replicate_succ,List.map_cons,List.flatten_cons,← ih];rfl
theorem boolRow {f:FuncId} {vs:List AV} {h:Heap} {l:List Bool} {n:Nat} (hn:l.length=n) (hf:ACalls Tryz.prog f vs [] (fun v h'=>∃ b Z,v=.osl b 0 n 1∧h'=(b,.vec (l.map encB).flatten)::Z)):QCall Tryz.prog f vs [] (.sl 1 none (l.map encB)):=by
 refine QCall.of (ACalls.frz hf ?_)
 rintro v h1 ⟨b,Z,rfl,rfl⟩
 exact ⟨b,_,Z,Z,_,.here _,FzH.refl _,fzEnc encB_len hn,VLe.refl _⟩
theorem GOK.costs {g:List (List Edg)} (h:GOK g):∀ es∈g,∀ x∈es,0≤x.cost∧x.cost≤18000:=by
 intro es hes x hx
 obtain ⟨i,hi⟩:=List.mem_iff_getElem?.1 hes
 exact (h.edge i es hi x hx).cost
theorem GOK.rest {g:List (List Edg)} (h:GOK g) (i:Nat) (hi:i≤g.length):-1≤restV g i∧restV g i≤1080000:=by
 have h1:=restT_get g i hi
 have h2:=restT_bound g h.costs _ (List.mem_of_getElem? h1)
 have:=h.few
 omega
end Go.Abs.Wall
namespace Go.Abs.Wall
open Go Go.Abs Go.Proofs
def wantAll (a k:Nat):Bool:=true
def lastT:List Bool→Nat→Nat→Nat
 | [],_,far=>far
 | b::t,i,far=>lastT t (i+1) (if b=true then i else far)
def reachL (H:Hou) (line:List Int):Int:=if growErr H line=0 then lastT (reachM (graphM H line) wantAll) 0 0 else 0
end Go.Abs.Wall
