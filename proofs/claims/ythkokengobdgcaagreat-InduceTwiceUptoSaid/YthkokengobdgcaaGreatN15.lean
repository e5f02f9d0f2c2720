/- What is proved: small laws for the walks of this seat, and contracts of its functions. No condition but those each theorem names. -/
import Derived.Test.YthkokengobdgcaaGreatN14
import Derived.Test.YthkokengobdgcaaGreatN11
import Derived.Test.YthkokengobdgcaaGreatN7
set_option maxRecDepth 100000
set_option maxHeartbeats 2000000
set_option linter.unusedVariables false
set_option linter.unusedSimpArgs false
namespace Go.Abs.Wall
open Go Go.Abs Go.Proofs
abbrev Pth:=Int × List Edg
def extC (x:Edg) (l:List Pth):List Int:=l.map fun p=>x.cost+p.1
def mkR (es:List Edg) (T:Edg→List Pth) (w:Wy):Pth:=match es[w.edge]? with
 | none=>(w.cost,[])
 | some x=>(w.cost,x::((T x).getD w.rank (0,[])).2)
def tabE (T:List (List Pth)) (x:Edg):List Pth:=T.getD (x.word.uses.length - 1) []
def rdT:List (List Edg)→List (List Pth)
 | []=>[[(0,[])]]
 | es::g=>((mgW (es.map fun x=>extC x (tabE (rdT g) x))).map (mkR es (tabE (rdT g))))::rdT g
def rdV (g:List (List Edg)) (i:Nat):List Pth:=(rdT (g.drop i)).headD []
def clsG (g:List (List Edg)) (es:List Edg):List (List Int):=es.map fun x=>extC x (rdV g x.to.toNat)
end Go.Abs.Wall
namespace Go.Abs.Wall.Lst
open Go Go.Abs Go.Proofs Go.Abs.Wall
structure NodeS (cls:List (List Int)) (t:Nat) (due:Bool) (Q:List Wy):Prop where
 ok:NodeOK cls t due Q
 few:Q.length+(if due=true then 1 else 0)≤2000
 asked:t≤65
def NodeH (cls:List (List Int)) (nk:Nat) (hp:Heap):Prop:=∃ t due Q fv fh ov oh,NodeS cls t due Q∧Out 3 encWy ((mgW cls).take t) fv fh∧OpenR Q ov oh∧hp=(nk,.vec (ndC fv ov due))::(fh++oh)
def clsAt (g:List (List Edg)) (i:Nat):List (List Int):=clsG g (g.getD i [])
inductive Nodes (g:List (List Edg)):Nat→List Nat→Heap→Prop
 | nil (i:Nat):Nodes g i [] []
 | cons {i k:Nat} {ks:List Nat} {h1 h2:Heap}:NodeH (clsAt g i) k h1→Nodes g (i+1) ks h2→Nodes g i (k::ks) (h1++h2)
theorem Nodes.split {g:List (List Edg)}:∀ {i:Nat} {ks:List Nat} {hp:Heap} (n:Nat),Nodes g i ks hp→n≤ks.length→∃ hA hB,hp=hA++hB∧Nodes g i (ks.take n) hA∧Nodes g (i+n) (ks.drop n) hB
 | i,ks,hp,0,h,_=>⟨[],hp,rfl,by simpa using .nil i,by simpa using h⟩
 | i,_,_,n+1,.nil _,hn=>by simp at hn
 | i,_,_,n+1,.cons (k:=k) (ks:=ks) (h1:=h1) (h2:=h2) h1' h2',hn=>by
   obtain ⟨hA,hB,rfl,e1,e2⟩:=Nodes.split n h2' (by simpa using hn)
   refine ⟨h1++hA,hB,by rw [List.append_assoc],.cons h1' e1,?_⟩
   rw [show i+(n+1)=i+1+n by omega]
   exact e2
theorem Out.len {α:Type} {k:Nat} {enc:α→List AV} {o:List α} {v:AV} {hp:Heap} (h:Out k enc o v hp):lenOf? v=some o.length:=by
 rcases h with ⟨rfl,rfl,rfl⟩|⟨q,rfl,rfl⟩
 ·rfl
 ·simp [lenOf?]
end Go.Abs.Wall.Lst
namespace Go.Abs.Wall.Lst
open Go Go.Abs Go.Proofs Go.Abs.Wall
end Go.Abs.Wall.Lst
