/- Small laws for the walks and contracts of functions; each theorem names its conditions. -/
import Derived.Calls
import Derived.Orders
import Derived.Laws.Sem
import GoSem.Claims
import GoSem.ClaimData
import Derived.Laws.Cover4
import Derived.ArgAppend
import Derived.Laws.Rows
import Derived.Laws.MakeOwn
import Derived.Laws.Entries
import Derived.Laws.Cells
import Derived.Laws.Strings
import Derived.IntWalk
import Derived.ChangeKeysEq
import Derived.Laws.StructEq
import Derived.Laws.Tables
import Derived.Laws.Slices
import Derived.Laws.Strings2
import Derived.Great.BuildSlice
/-
 The abstract fR,part A: abstract values,own objects,and xY it is that a value in memory P2 for an abstract one.
-/
namespace Go.Abs
open Go
inductive AV where
 | unit
 | HG
 | bool (b:Bool)
 | int (k:IntKind) (n:Int)
 | str (s:List UInt8)
 | aS
 | sl (k:Nat) (t:Option Nat) (xs:List (List AV))
 | wo (k:Nat)
 | gu
 | aQ (b:Nat) (off len k:Nat)
 | eO (b:Nat) (off len cap k:Nat)
 | ai (cs:List AV)
 | ba (b:Nat) (off:Nat)
 | jC
 | omap (b:Nat)
 | BE
 | fn (f:FuncId) (bP:List AV)
 | Ew
 | agg (cs:List AV)
 | aB (vs:List AV)
 | tN (b:Nat)
inductive Ob where
 | vec (cs:List AV)
 | tok
 | map (es:List (AV × AV))
 | uP (es:List (AV × AV)) (bs:List Nat) (cl:Nat)
 | iter (m cl:Nat) (seen:List Nat)
 | oB (s:List UInt8) (pos:Nat)
abbrev af:=List (Nat × Ob)
def keys (h:af):List Nat:=h.map (·.1)
def qc:AV->Option (List AV)
 | .agg cs=>some cs
 | .aB _=>none
 | .unit=>none
 | v=>some [v]
def aq:Nat:=140737488355328
def pf:Nat:=9223372036854775807
structure Gh where
 pl:Nat->Option Addr
 ow:Nat->Option (Nat × Nat)
structure Cx where
 g:Gh
 live:Nat->Prop
 w:World
def Cx.fr (c:Cx) (b o:Nat):Prop:=∀ k s,c.g.ow b=some (k,s)->c.live k->o<s
def World.qd (w:World) (b n:Nat):Prop:=∃ cs t f,w.heap[b]?=some (.cells cs t f)/\n<=cs.size
mutual
def ae (c:Cx):AV->Value->Prop
 | .unit,_=>True
 | .HG,v=>v.oneCell'=true
 | .bool b,v=>v=.bool b
 | .int k n,v=>v=.int k n/\k.has n
 | .str s,v=>∃ b:ByteArray,v=.string b/\b.data.toList=s/\s.length<=aq
 | .aS,v=>v=.slice none 0 0
 | .sl k t xs,v=>∃ base cap,v=.slice base xs.length cap/\xs.length<=cap/\xs.length<=aq/\0<k /\
    (base=none->cap=0) /\
    (∀ a,base=some a->xs≠[]->a.spot=none) /\
    (∀ a,base=some a->cj c k xs a.block a.off) /\
    (∀ q,t=some q->cap=xs.length\/∃ a,base=some a/\a.spot=none/\c.g.pl q=some ⟨a.block,a.off+xs.length*k,none⟩/\World.qd c.w a.block (a.off+cap*k))
 | .wo k,v=>∃ a cap,v=.slice (some a) 0 cap/\0<k
 | .gu,v=>v=.slice none 0 0
 | .aQ b off len k,v=>∃ p cap o',c.g.pl b=some p/\p.spot=none/\v=.slice (some ⟨p.block,p.off+o',none⟩) len cap/\len<=cap/\len<=aq/\0<k/\World.qd c.w p.block (p.off+o'+cap*k)/\(0<cap->o'=off)/\cap<=pf
 | .eO b off len cap k,v=>∃ p,c.g.pl b=some p/\p.spot=none/\v=.slice (some ⟨p.block,p.off+off,none⟩) len cap/\len<=cap/\len<=aq/\0<k/\World.qd c.w p.block (p.off+off+cap*k)/\cap<=pf
 | .ai cs,v=>∃ b o,v=.pointer (some ⟨b,o,none⟩)/\bC c cs b o
 | .ba b off,v=>∃ p,c.g.pl b=some p/\p.spot=none/\v=.pointer (some ⟨p.block,p.off+off,none⟩)
 | .jC,v=>v=.pointer none
 | .omap b,v=>∃ p,c.g.pl b=some p/\v=.map (some p.block)
 | .BE,v=>v=.map none
 | .fn f bP,v=>∃ us,v=.func (.func f) #[] us/\au c bP us.toList
 | .Ew,v=>v=.nilFunc
 | .agg cs,v=>∃ us,v=.agg us/\(∀ u∈us,u.oneCell'=true)/\au c cs us.toList
 | .aB vs,v=>∃ us,v=.tuple us/\au c vs us.toList
 | .tN b,v=>∃ p,c.g.pl b=some p/\v=.pointer (some ⟨p.block,0,none⟩)
def au (c:Cx):List AV->List Value->Prop
 | [],us=>us=[]
 | x::xs,us=>∃ u r,us=u::r/\ae c x u/\au c xs r
def bC (c:Cx):List AV->Nat->Nat->Prop
 | [],_,_=>True
 | x::xs,b,o=>(∃ u,c.w.cell? ⟨b,o,none⟩=some u/\u.oneCell'=true/\c.fr b o/\ae c x u)/\bC c xs b (o+1)
def cj (c:Cx) (k:Nat):List (List AV)->Nat->Nat->Prop
 | [],_,_=>True
 | x::xs,b,o=>(x.length=k/\bC c x b o)/\cj c k xs b (o+k)
end
structure Cx.Le (c c':Cx):Prop where
 pl:∀ k p,c.g.pl k=some p->c'.g.pl k=some p
 cell:∀ b o u,c.w.cell? ⟨b,o,none⟩=some u->c.fr b o->c'.w.cell? ⟨b,o,none⟩=some u/\c'.fr b o
 has:∀ b n,World.qd c.w b n->World.qd c'.w b n
theorem Cx.Le.refl (c:Cx):Cx.Le c c:=⟨fun _ _ h=>h,fun _ _ _ h h'=>⟨h,h'⟩,fun _ _ h=>h⟩
theorem Cx.Le.trans {a b c:Cx} (h:Cx.Le a b) (k:Cx.Le b c):Cx.Le a c:=
 ⟨fun x p e=>k.pl x p (h.pl x p e),fun x o u e f=>let ⟨e',f'⟩:=h.cell x o u e f;k.cell x o u e' f',fun x n e=>k.has x n (h.has x n e)⟩
mutual
theorem ae.mono {c c':Cx} (hc:Cx.Le c c'):∀ (x:AV) (v:Value),ae c x v->ae c' x v
 | .unit,_,_=>by simp [ae]
 | .HG,v,h=>by simpa [ae] using h
 | .bool b,v,h=>by simpa [ae] using h
 | .int k n,v,h=>by simpa [ae] using h
 | .str s,v,h=>by simpa [ae] using h
 | .aS,v,h=>by simpa [ae] using h
 | .jC,v,h=>by simpa [ae] using h
 | .wo k,v,h=>by simpa [ae] using h
 | .gu,v,h=>by simpa [ae] using h
 | .BE,v,h=>by simpa [ae] using h
 | .Ew,v,h=>by simpa [ae] using h
 | .sl k t xs,v,h=>by
   simp only [ae] at h ⊢;obtain ⟨base,cap,hv,h1,h2,h3,h4,h5,h6,h7⟩:=h;refine ⟨base,cap,hv,h1,h2,h3,h4,h5,fun a ha=>cj.mono hc k xs _ _ (h6 a ha),fun q hq=>?_⟩;rcases h7 q hq with h7|⟨a,ha,hs,hp,hh⟩
   ·exact .inl h7
   exact .inr ⟨a,ha,hs,hc.pl _ _ hp,hc.has _ _ hh⟩
 | .aQ b off len k,v,h=>by simp only [ae] at h ⊢;obtain ⟨p,cap,o',hp,hs,hv,h1,h2,h3,h4,h5⟩:=h;exact ⟨p,cap,o',hc.pl _ _ hp,hs,hv,h1,h2,h3,hc.has _ _ h4,h5⟩
 | .eO b off len cap k,v,h=>by simp only [ae] at h ⊢;obtain ⟨p,hp,hs,hv,h1,h2,h3,h4,h5⟩:=h;exact ⟨p,hc.pl _ _ hp,hs,hv,h1,h2,h3,hc.has _ _ h4,h5⟩
 | .ai cs,v,h=>by simp only [ae] at h ⊢;obtain ⟨b,o,hv,hr⟩:=h;exact ⟨b,o,hv,bC.mono hc cs _ _ hr⟩
 | .ba b off,v,h=>by simp only [ae] at h ⊢;obtain ⟨p,hp,r⟩:=h;exact ⟨p,hc.pl _ _ hp,r⟩
 | .omap b,v,h=>by simp only [ae] at h ⊢;obtain ⟨p,hp,r⟩:=h;exact ⟨p,hc.pl _ _ hp,r⟩
 | .tN b,v,h=>by simp only [ae] at h ⊢;obtain ⟨p,hp,r⟩:=h;exact ⟨p,hc.pl _ _ hp,r⟩
 | .fn f bP,v,h=>by simp only [ae] at h ⊢;obtain ⟨us,hv,hr⟩:=h;exact ⟨us,hv,au.mono hc bP _ hr⟩
 | .agg cs,v,h=>by simp only [ae] at h ⊢;obtain ⟨us,hv,h1,hr⟩:=h;exact ⟨us,hv,h1,au.mono hc cs _ hr⟩
 | .aB cs,v,h=>by simp only [ae] at h ⊢;obtain ⟨us,hv,hr⟩:=h;exact ⟨us,hv,au.mono hc cs _ hr⟩
theorem au.mono {c c':Cx} (hc:Cx.Le c c'):∀ (xs:List AV) (us:List Value),au c xs us->au c' xs us
 | [],us,h=>by simpa [au] using h
 | x::xs,us,h=>by simp only [au] at h ⊢;obtain ⟨u,r,hu,h1,h2⟩:=h;exact ⟨u,r,hu,ae.mono hc x u h1,au.mono hc xs r h2⟩
theorem bC.mono {c c':Cx} (hc:Cx.Le c c'):∀ (xs:List AV) (b o:Nat),bC c xs b o->bC c' xs b o
 | [],b,o,h=>by simp [bC]
 | x::xs,b,o,h=>by simp only [bC] at h ⊢;obtain ⟨⟨u,h1,h2,h3,h4⟩,h5⟩:=h;obtain ⟨e,f⟩:=hc.cell _ _ _ h1 h3;exact ⟨⟨u,e,h2,f,ae.mono hc x u h4⟩,bC.mono hc xs _ _ h5⟩
theorem cj.mono {c c':Cx} (hc:Cx.Le c c') (k:Nat):∀ (xs:List (List AV)) (b o:Nat),cj c k xs b o->cj c' k xs b o
 | [],b,o,h=>by simp [cj]
 | x::xs,b,o,h=>by simp only [cj] at h ⊢;exact ⟨⟨h.1.1,bC.mono hc x _ _ h.1.2⟩,cj.mono hc k xs _ _ h.2⟩
end
theorem ae.BF {c:Cx} {b off len k:Nat} {v:Value} (h:ae c (.aQ b off len k) v) (hl:0<len):∃ p cap,c.g.pl b=some p/\p.spot=none/\v=.slice (some ⟨p.block,p.off+off,none⟩) len cap/\len<=cap/\len<=aq/\0<k /\
  World.qd c.w p.block (p.off+off+cap*k)/\cap<=pf:=by
 simp only [ae] at h;obtain ⟨p,cap,o',h1,h2,h3,h4,h5,h6,h7,h8,h9⟩:=h;have:=h8 (by omega);subst this;exact ⟨p,cap,h1,h2,h3,h4,h5,h6,h7,h9⟩
end Go.Abs
/-
 The abstract fR,part B: own objects,the abstract state,and the BG: a P3 P4 MC a TN code,made to be reduced.
-/
namespace Go.Abs
open Go
def eP (c:Cx):List (AV × AV)->List MapEntry->Prop
 | [],es=>es=[]
 | x::xs,es=>∃ e r,es=e::r/\ae c x.1 e.key/\ae c x.2 e.val/\eP c xs r
def oC (c:Cx) (k:Nat):Ob->Prop
 | .vec cs=>∃ p cc t,c.g.pl k=some p/\p.spot=none/\c.g.ow p.block=some (k,0)/\c.w.heap[p.block]?=some (.cells cc t (0,0)) /\
    p.off+cs.length<=cc.size/\∀ i x,cs[i]?=some x->∃ u,cc[p.off+i]?=some u/\u.oneCell'=true/\ae c x u
 | .tok=>∀ p,c.g.pl k=some p->p.spot=none/\c.g.ow p.block=some (k,p.off)/\∃ cc t,c.w.heap[p.block]?=some (.cells cc t (0,0))
 | .map es=>∃ p cl aj,c.g.pl k=some p/\c.g.ow p.block=some (k,0)/\c.w.heap[p.block]?=some (.map aj cl)/\eP c es aj.toList /\
    (∀ x∈aj.toList,x.born<cl)/\(aj.toList.map (·.born)).Nodup
 | .uP es bs cl=>∃ p aj,c.g.pl k=some p/\c.g.ow p.block=some (k,0)/\c.w.heap[p.block]?=some (.map aj cl)/\eP c es aj.toList /\
    (∀ x∈aj.toList,x.born<cl)/\(aj.toList.map (·.born)).Nodup/\aj.toList.map (·.born)=bs
 | .iter m cl seen=>∃ p pm sa,c.g.pl k=some p/\c.g.ow p.block=some (k,0)/\c.w.heap[p.block]?=some (.mapIter (some pm.block) cl sa cl)/\c.g.pl m=some pm/\sa.toList=seen
 | .oB s pos=>∃ p b,c.g.pl k=some p/\c.g.ow p.block=some (k,0)/\c.w.heap[p.block]?=some (.stringIter b pos)/\b.data.toList=s/\s.length<=aq
def live (X:Nat->Prop) (h:af):Nat->Prop:=fun k=>X k\/k∈keys h
structure CW (X:Nat->Prop) (g:Gh) (h:af) (w:World):Prop where
 own:∀ b k s,g.ow b=some (k,s)->b<w.heap.size
 bound:∃ N,∀ k,(X k\/k∈keys h\/g.pl k≠none\/∃ b s,g.ow b=some (k,s))->k<N
 nodup:(keys h).Nodup
 sep:∀ k,k∈keys h->¬ X k
 obj:∀ k o,(k,o)∈h->oC ⟨g,live X h,w⟩ k o
structure Step (X:Nat->Prop) (g:Gh) (h:af) (w:World) (g':Gh) (h':af) (w':World):Prop where
 os:w'.os=w.os
 xZ:w'.tape=w.tape/\w.drawn<=w'.drawn
 output:w'.output=w.output
 size:w.heap.size<=w'.heap.size
 pl:∀ k p,g.pl k=some p->g'.pl k=some p
 Ae:∀ b k s,g.ow b=some (k,s)->X k->g'.ow b=some (k,s)
 ya:∀ b k s,g'.ow b=some (k,s)->X k->g.ow b=some (k,s)
 BH:∀ k,X k->g.pl k=none->g'.pl k=none
 qe:∀ b,b<w.heap.size->(∀ k s,g.ow b=some (k,s)->k ∉ keys h)->w'.heap[b]?=w.heap[b]?/\∀ k s,g'.ow b=some (k,s)->k ∉ keys h'
 Af:∀ b k s,g.ow b=some (k,s)->k∈keys h->∀ cc t f,w.heap[b]?=some (.cells cc t f) ->
  ∃ eG,w'.heap[b]?=some (.cells eG t f)/\eG.size=cc.size/\∀ o,o<s->eG[o]?=cc[o]?
 yb:∀ b k s,g.ow b=some (k,s)->k∈keys h->∀ k' s',g'.ow b=some (k',s')->live X h' k'->s<=s'
theorem Step.refl (X:Nat->Prop) (g:Gh) (h:af) (w:World):Step X g h w g h w:=
 ⟨rfl,⟨rfl,Nat.le_refl _⟩,rfl,Nat.le_refl _,fun _ _ e=>e,fun _ _ _ e _=>e,fun _ _ _ e _=>e,fun _ _ e=>e,fun _ _ e=>⟨rfl,e⟩,
   fun _ _ _ _ _ cc _ _ e=>⟨cc,e,rfl,fun _ _=>rfl⟩,fun _ _ _ e _ _ _ e' _=>by rw [e] at e';cases e';exact Nat.le_refl _⟩
theorem Step.trans {X:Nat->Prop} {g g1 g2:Gh} {h h1 h2:af} {w w1 w2:World} (own:∀ b k s,g.ow b=some (k,s)->b<w.heap.size)
  (s1:Step X g h w g1 h1 w1) (s2:Step X g1 h1 w1 g2 h2 w2):Step X g h w g2 h2 w2:=by
 refine ⟨s2.os.trans s1.os,⟨s2.xZ.1.trans s1.xZ.1,Nat.le_trans s1.xZ.2 s2.xZ.2⟩,s2.output.trans s1.output,Nat.le_trans s1.size s2.size,fun k p e=>s2.pl k p (s1.pl k p e),
  fun b k s e x=>s2.Ae b k s (s1.Ae b k s e x) x,fun b k s e x=>s1.ya b k s (s2.ya b k s e x) x,fun k x e=>s2.BH k x (s1.BH k x e),?_,?_,?_⟩
 ·intro b hb hn;obtain ⟨e1,n1⟩:=s1.qe b hb hn;obtain ⟨e2,n2⟩:=s2.qe b (Nat.lt_of_lt_of_le hb s1.size) n1;exact ⟨e2.trans e1,n2⟩
 ·intro b k s ho hk cc t f bJ;obtain ⟨Ag,e1,z1,p1⟩:=s1.Af b k s ho hk cc t f bJ;have hb:b<w1.heap.size:=Nat.lt_of_lt_of_le (own b k s ho) s1.size;by_cases hm:∃ k1 qf,g1.ow b=some (k1,qf)/\k1∈keys h1
  ·obtain ⟨k1,qf,oD,cW⟩:=hm;obtain ⟨sw,e2,z2,p2⟩:=s2.Af b k1 qf oD cW Ag t f e1;have hle:=s1.yb b k s ho hk k1 qf oD (.inr cW);exact ⟨sw,e2,z2.trans z1,fun o h=>(p2 o (by omega)).trans (p1 o h)⟩
  obtain ⟨e2,_⟩:=s2.qe b hb (fun k1 qf e hk=>hm ⟨k1,qf,e,hk⟩);exact ⟨Ag,e2.trans e1,z1,p1⟩
 intro b k s ho hk k2 Ey cg cX;have hb:b<w1.heap.size:=Nat.lt_of_lt_of_le (own b k s ho) s1.size;by_cases hm:∃ k1 qf,g1.ow b=some (k1,qf)/\k1∈keys h1
 ·obtain ⟨k1,qf,oD,cW⟩:=hm;have h1:=s1.yb b k s ho hk k1 qf oD (.inr cW);have h2:=s2.yb b k1 qf oD cW k2 Ey cg cX;omega
 obtain ⟨_,n2⟩:=s2.qe b hb (fun k1 qf e hk=>hm ⟨k1,qf,e,hk⟩);rcases cX with hx|bg
 ·exact s1.yb b k s ho hk k2 Ey (s2.ya b k2 Ey cg hx) (.inl hx)
 exact absurd bg (n2 k2 Ey cg)
theorem Step.le {X:Nat->Prop} {g g':Gh} {h h':af} {w w':World} (s:Step X g h w g' h' w') :
  Cx.Le ⟨g,live X h,w⟩ ⟨g',live X h',w'⟩:=by
 refine ⟨s.pl,?_,?_⟩
 ·intro b o u hu hf;simp only [World.cell?] at hu
  have hb:b<w.heap.size:=by
   cases hh:w.heap[b]? with
   | none=>simp [hh] at hu
   | some x=>exact (Array.getElem?_eq_some_iff.1 hh).1
  by_cases hm:∃ k s',g.ow b=some (k,s')/\k∈keys h
  ·obtain ⟨k,s',ho,hk⟩:=hm;have aP:o<s':=hf k s' ho (.inr hk);cases hh:w.heap[b]? with
   | none=>simp [hh] at hu
   | some x=>
     cases x with
     | cells cc t f=>
       obtain ⟨eG,e,z,p⟩:=s.Af b k s' ho hk cc t f hh;refine ⟨?_,fun k' yc bF dR=>Nat.lt_of_lt_of_le aP (s.yb b k s' ho hk k' yc bF dR)⟩;simp only [World.cell?,e];simp only [hh] at hu;simpa [p o aP] using hu
     | _=>simp [hh] at hu
  obtain ⟨e,n⟩:=s.qe b hb (fun k s' ho hk=>hm ⟨k,s',ho,hk⟩);refine ⟨by simp only [World.cell?,e];exact hu,fun k' yc bF dR=>?_⟩;rcases dR with hx|bn
  ·exact hf k' yc (s.ya b k' yc bF hx) (.inl hx)
  exact absurd bn (n k' yc bF)
 rintro b n ⟨cc,t,f,bJ,hn⟩;have hb:b<w.heap.size:=(Array.getElem?_eq_some_iff.1 bJ).1;by_cases hm:∃ k s',g.ow b=some (k,s')/\k∈keys h
 ·obtain ⟨k,s',ho,hk⟩:=hm;obtain ⟨eG,e,z,_⟩:=s.Af b k s' ho hk cc t f bJ;exact ⟨eG,t,f,e,by omega⟩
 obtain ⟨e,_⟩:=s.qe b hb (fun k s' ho hk=>hm ⟨k,s',ho,hk⟩);exact ⟨cc,t,f,e.trans bJ,hn⟩
abbrev G:=List (Nat × Bool × Bool)
abbrev aC:=List (Nat × G × AV)
def bl:aC->Nat->Option (G × AV)
 | [],_=>none
 | (t,x)::r,n=>match Nat.beq t n with
   | true=>some x
   | false=>bl r n
def Ez:Bool->Bool->Bool
 | true,true=>true
 | false,false=>true
 | _,_=>false
def BI:G->Nat->Bool->Bool
 | [],_,_=>false
 | (t,_,w)::r,n,w'=>match Nat.beq t n with
   | true=>(match Ez w w' with
     | true=>true
     | false=>BI r n w')
   | false=>BI r n w'
def EA:G->G->Bool
 | [],_=>true
 | (t,_,w)::r,g=>match BI g t w with
   | true=>EA r g
   | false=>false
def gP:G->Prop->Prop
 | [],p=>p
 | (_,b,w)::r,p=>b=w->gP r p
def HH (k:IntKind) (n:Int):Bool:=
 match k,n with
 | .i64,n=>Nat.ble n.natAbs 4611686018427387904
 | .i32,n=>Nat.ble n.natAbs 1073741824
 | .u8,.ofNat n=>Nat.ble n 255
 | .u32,.ofNat n=>Nat.ble n 4294967295
 | .u64,.ofNat n=>Nat.ble n 9223372036854775807
 | _,_=>false
def oE:Value->Option AV
 | .bool b=>some (.bool b)
 | .int k n=>(match HH k n with|true=>some (.int k n)|false=>none)
 | .string s=>(match Nat.ble s.data.toList.length 65536 with|true=>some (.str s.data.toList)|false=>none)
 | .pointer none=>some .jC
 | .slice none 0 0=>some .aS
 | .map none=>some .BE
 | .nilFunc=>some .Ew
 | _=>none
def sy:List Value->Option (List AV)
 | []=>some []
 | v::r=>match oE v with
   | some a=>(match sy r with
     | some b=>some (a::b)
     | none=>none)
   | none=>none
def iQ (P:Program) (t:TypeId):Option (List AV):=
 match P.info? t with
 | some i=>match i.zero with
   | some v=>sy v.cells.toList
   | none=>none
 | none=>none
def nm (P:Program) (t:TypeId):Option Bool:=
 match P.underlying t with
 | some (.struct _)=>some true
 | some (.array _ _)=>some true
 | some _=>some false
 | none=>none
def aL (r:aC) (g:G):Operand->Option AV
 | .tmp t=>match bl r t with
   | some (g',v)=>match EA g' g with
     | true=>some v
     | false=>none
   | none=>none
 | .const v=>oE v
 | .func f=>some (.fn f [])
 | .global _=>none
def bQ (r:aC) (g:G):List Operand->Option (List AV)
 | []=>some []
 | x::xs=>match aL r g x with
   | some v=>(match bQ r g xs with
     | some vs=>some (v::vs)
     | none=>none)
   | none=>none
def takeN:Nat->List AV->Option (List AV)
 | 0,_=>some []
 | _+1,[]=>none
 | n+1,c::cs=>match takeN n cs with
   | some l=>some (c::l)
   | none=>none
def iR:Nat->List AV->Option (List AV)
 | 0,cs=>some cs
 | _+1,[]=>none
 | n+1,_::cs=>iR n cs
def arith (g:G) (k:IntKind) (n:Int) (K:AV->Prop):Prop:=
 match k with
 | .i64=>gP g (-9223372036854775808<=n/\n<=9223372036854775807)/\K (.int .i64 n)
 | .i32=>gP g (-2147483648<=n/\n<=2147483647)/\K (.int .i32 n)
 | k=>K (.int k (k.wrap n))
def HI:IntKind->IntKind->Bool
 | .i8,.i8=>true
 | .i16,.i16=>true
 | .i32,.i32=>true
 | .i64,.i64=>true
 | .u8,.u8=>true
 | .u16,.u16=>true
 | .u32,.u32=>true
 | .u64,.u64=>true
 | _,_=>false
def qg (P:Program) (t:TypeId) (x y:AV):Option Bool:=
 match P.underlying t,x,y with
 | some (.int _),.int k a,.int k' b=>(match HI k k' with|true=>some (decide (a=b))|false=>none)
 | some .string,.str a,.str b=>some (decide (a=b))
 | some .bool,.bool a,.bool b=>some (decide (a=b))
 | _,_,_=>none
def oF (P:Program):Nat->List Field->List AV->List AV->Option Bool
 | _,[],[],[]=>some true
 | i,f::fs,x::xs,y::ys=>match Nat.beq f.offset i with
   | true=>(match qg P f.type x y with
     | some b=>(match oF P (i+1) fs xs ys with
       | some c=>some (b&&c)
       | none=>none)
     | none=>none)
   | false=>none
 | _,_,_,_=>none
def rm (P:Program) (e:TypeId):List AV->List AV->Option Bool
 | [],[]=>some true
 | x::xs,y::ys=>match qg P e x y with
   | some b=>(match rm P e xs ys with
     | some c=>some (b&&c)
     | none=>none)
   | none=>none
 | _,_=>none
def jD (P:Program) (t:TypeId) (x y:AV):Option Bool:=
 match P.underlying t with
 | some (.struct fs)=>(match x,y with
   | .agg xs,.agg ys=>oF P 0 fs.toList xs ys
   | _,_=>none)
 | some (.array n e)=>(match x,y with
   | .agg xs,.agg ys=>(match Nat.beq xs.length n,Nat.beq (P.cellsOf e) 1,P.info? e with
     | true,true,some _=>rm P e xs ys
     | _,_,_=>none)
   | _,_=>none)
 | some _=>qg P t x y
 | none=>none
def pg (P:Program) (t:TypeId):Bool:=
 match P.underlying t with
 | some (.struct fs)=>fs.toList.all (fun f=>!(f.name == "_"))&&!P.stoodInHeld t&&!P.eqGuardType P.depth t
 | some (.array _ _)=>!P.eqGuardType P.depth t
 | some _=>true
 | none=>false
def qh (k k':IntKind) (p:Prop):Prop:=
 match k,k' with
 | .i8,.i8=>p
 | .i16,.i16=>p
 | .i32,.i32=>p
 | .i64,.i64=>p
 | .u8,.u8=>p
 | .u16,.u16=>p
 | .u32,.u32=>p
 | .u64,.u64=>p
 | _,_=>False
theorem pj {k k':IntKind} {p:Prop}:qh k k' p↔(k=k'/\p):=by cases k<;>cases k'<;>simp [qh]
def tO (P:Program) (g:G) (t:TypeId) (op:BinOp) (x y:AV) (K:AV->Prop):Prop:=
 match op,x,y with
 | .add,.int k a,.int k' b=>qh k k' (arith g k (a+b) K)
 | .sub,.int k a,.int k' b=>qh k k' (arith g k (a - b) K)
 | .mul,.int k a,.int k' b=>qh k k' (arith g k (a*b) K)
 | .quo,.int k a,.int k' b=>qh k k' (gP g (b≠0)/\arith g k (Int.tdiv a b) K)
 | .rem,.int k a,.int k' b=>qh k k' (gP g (b≠0/\k.has (Int.tmod a b))/\K (.int k (Int.tmod a b)))
 | .lss,.int k a,.int k' b=>qh k k' (K (.bool (decide (a<b))))
 | .leq,.int k a,.int k' b=>qh k k' (K (.bool (decide (a<=b))))
 | .gtr,.int k a,.int k' b=>qh k k' (K (.bool (decide (b<a))))
 | .geq,.int k a,.int k' b=>qh k k' (K (.bool (decide (b<=a))))
 | .eql,.int k a,.int k' b=>qh k k' (K (.bool (decide (a=b))))
 | .neq,.int k a,.int k' b=>qh k k' (K (.bool (!decide (a=b))))
 | .eql,.bool a,.bool b=>(match P.underlying t with|some .bool=>K (.bool (decide (a=b)))|_=>False)
 | .neq,.bool a,.bool b=>(match P.underlying t with|some .bool=>K (.bool (!decide (a=b)))|_=>False)
 | .eql,.str a,.str b=>K (.bool (decide (a=b)))
 | .neq,.str a,.str b=>K (.bool (!decide (a=b)))
 | .lss,.str a,.str b=>K (.bool (Op.bytesLess a b))
 | .add,.str a,.str b=>gP g ((a++b).length<=aq)/\K (.str (a++b))
 | .eql,.agg xs,.agg ys=>(match jD P t (.agg xs) (.agg ys) with|some b=>pg P t=true/\K (.bool b)|none=>False)
 | .neq,.agg xs,.agg ys=>(match jD P t (.agg xs) (.agg ys) with|some b=>pg P t=true/\K (.bool (!b))|none=>False)
 | .eql,.aS,.aS=>(match P.underlying t with|some (.slice _)=>K (.bool true)|_=>False)
 | .neq,.aS,.aS=>(match P.underlying t with|some (.slice _)=>K (.bool false)|_=>False)
 | .eql,.wo _,.aS=>(match P.underlying t with|some (.slice _)=>K (.bool false)|_=>False)
 | .neq,.wo _,.aS=>(match P.underlying t with|some (.slice _)=>K (.bool true)|_=>False)
 | .eql,.sl _ _ xs,.aS=>(match P.underlying t with|some (.slice _)=>gP g (xs≠[])/\K (.bool false)|_=>False)
 | .neq,.sl _ _ xs,.aS=>(match P.underlying t with|some (.slice _)=>gP g (xs≠[])/\K (.bool true)|_=>False)
 | .gtr,.str a,.str b=>K (.bool (!Op.bytesLess a b&&!decide (a=b)))
 | .eql,.aQ _ _ _ _,.aS=>(match P.underlying t with|some (.slice _)=>K (.bool false)|_=>False)
 | .eql,.ai _,.jC=>(match P.underlying t with|some (.pointer _)=>K (.bool false)|_=>False)
 | .neq,.ai _,.jC=>(match P.underlying t with|some (.pointer _)=>K (.bool true)|_=>False)
 | .eql,.jC,.jC=>(match P.underlying t with|some (.pointer _)=>K (.bool true)|_=>False)
 | .neq,.jC,.jC=>(match P.underlying t with|some (.pointer _)=>K (.bool false)|_=>False)
 | .shr,.int k a,.int k' (.ofNat 1)=>gP g ((k=.u64/\k'=.u64)/\0<=a/\a<9223372036854775808)/\K (.int .u64 (a / 2))
 | .shr,.int k a,.int k' b=>gP g ((k=.u64/\k'=.u64)/\(0<=a/\a<4294967296)/\b=32)/\K (.int .u64 0)
 | .and,.int k a,.int k' b=>gP g ((k=.u64/\k'=.u64)/\(0<=a/\a<4294967296)/\b=4294967295)/\K (.int .u64 a)
 | _,_,_=>False
def rn (P:Program) (t:TypeId) (k:AV):List (AV × AV)->Option (Option AV)
 | []=>some none
 | (x,v)::es=>match jD P t k x with
   | some true=>some (some v)
   | some false=>rn P t k es
   | none=>none
def pk (P:Program) (t:TypeId) (k v:AV):List (AV × AV)->List (AV × AV)
 | []=>[(k,v)]
 | (x,u)::es=>match jD P t k x with
   | some true=>(k,v)::es
   | _=>(x,u)::pk P t k v es
def sz (P:Program) (t:TypeId) (k:AV):Prop:=pg P t=true/\jD P t k k=some true
def zeroV (P:Program) (t:TypeId):Option AV:=
 match P.info? t with
 | some i=>(match i.zero with
   | some (.agg us)=>(match sy us.toList with
     | some l=>some (.agg l)
     | none=>none)
   | some v=>oE v
   | none=>none)
 | none=>none
def yd (P:Program) (t:TypeId) (k:AV) (es:List (AV × AV)) (z:AV):Option (AV × Bool):=
 match rn P t k es with
 | some (some v)=>some (v,true)
 | some none=>some (z,false)
 | none=>none
def sA (ok:Bool) (v:AV) (f:Bool):AV:=
 match ok with
 | true=>.aB [v,.bool f]
 | false=>v
structure av where
 my:List Nat
 own:List Nat
 ye:List Nat
 HJ:List Nat
 EB:List (Nat × List Nat × List Nat):=[]
 lc:List Nat:=[]
def rp:List Nat->Nat->Bool
 | [],_=>false
 | x::r,n=>match Nat.beq x n with
   | true=>true
   | false=>rp r n
inductive cP (b:Nat) (o:Ob) (b':Nat) (o':Ob):af->af->Prop
 | here (h:af):cP b o b' o' ((b,o)::h) ((b',o')::h)
 | there {x:Nat × Ob} {h h':af}:cP b o b' o' h h'->cP b o b' o' (x::h) (x::h')
inductive bj (b:Nat) (o:Ob):af->af->Prop
 | here (h:af):bj b o ((b,o)::h) h
 | there {x:Nat × Ob} {h h':af}:bj b o h h'->bj b o (x::h) (x::h')
def tP (P:Program) (f:FuncId):Prop:=∃ fn c,P.funcs[f]?=some fn/\fn.body=some c/\(fn.name == "runtime.NumGoroutine")=false
def wq (P:Program) (f:FuncId) (us:Array Value) (w:World) (R:Ending->World->Prop):Prop:=
 (tP P f/\Calls P f us w R)\/∃ v w',(callFunc f us).run P w=.ok (.value v) w'/\R (.returned v) w'
theorem wq.mono {P:Program} {f:FuncId} {us:Array Value} {w:World} {R R':Ending->World->Prop} (hc:wq P f us w R) (h:∀ e w',R e w'->R' e w'):wq P f us w R':=by
 rcases hc with ⟨h1,h2⟩|⟨v,w',h1,h2⟩
 ·exact .inl ⟨h1,h2.mono h⟩
 exact .inr ⟨v,w',h1,h _ _ h2⟩
structure aw (P:Program) (f:FuncId) (args:List AV) (h:af) (R:AV->af->Prop):Prop where
 calls:∀ (X:Nat->Prop) (g:Gh) (w:World) (us:Array Value),CW X g h w->au ⟨g,live X h,w⟩ args us.toList ->
  wq P f us w fun e w'=>∃ v u g' h',e=.returned u/\R v h'/\CW X g' h' w'/\ae ⟨g',live X h',w'⟩ v u/\Step X g h w g' h' w'
def ab (P:Program) (f:FuncId) (args:List AV) (h:af) (v:AV):Prop:=
 aw P f args h fun v' h'=>v'=v/\h'=h
def tQ (d:Option TypeDesc) (x:AV) (K:AV->Prop):Prop:=
 match d,x with
 | some (.slice _),.sl _ _ xs=>K (.int .i64 xs.length)
 | some (.slice _),.aS=>K (.int .i64 0)
 | some (.slice _),.wo _=>K (.int .i64 0)
 | some (.slice _),.gu=>K (.int .i64 0)
 | some (.slice _),.aQ _ _ n _=>K (.int .i64 n)
 | some (.slice _),.eO _ _ n _ _=>K (.int .i64 n)
 | some .string,.str s=>K (.int .i64 s.length)
 | _,_=>False
def uQ (P:Program) (s:TypeId) (f:Nat):Option Field:=
 match P.underlying s with
 | some (.struct fs)=>fs.toList[f]?
 | _=>none
def gv (P:Program) (t:TypeId) (cs:List AV) (K:AV->Prop):Prop:=
 match nm P t with
 | some true=>(match takeN (P.cellsOf t) cs with
   | some l=>K (.agg l)
   | none=>False)
 | some false=>(match cs with
   | c::_=>K c
   | []=>False)
 | none=>False
def foldI (f:Int->Int->Int):Int->List AV->Option Int
 | x,[]=>some x
 | x,.int .i64 y::r=>foldI f (f x y) r
 | _,_=>none
def wu:List (Nat × AV)->(Nat->Option (Nat × Nat))->List AV->Option (List AV)
 | [],_,cs=>some cs
 | (i,v)::r,place,cs=>match place i with
   | some (off,size)=>
     (match qc v with
      | some l=>(match Nat.beq l.length size with
        | true=>(match takeN off cs with
          | some a=>(match iR (off+size) cs with
            | some b=>wu r place (a++l++b)
            | none=>none)
          | none=>none)
        | false=>none)
      | none=>none)
   | none=>none
def placesOf (P:Program):List Field->Option (List (Nat × Nat))
 | []=>some []
 | f::fs=>match P.info? f.type with
   | some i=>(match placesOf P fs with
     | some l=>some ((f.offset,i.size)::l)
     | none=>none)
   | none=>none
def partsOf (r:aC) (g:G):List (Nat × Operand)->Option (List (Nat × AV))
 | []=>some []
 | (i,x)::ps=>match aL r g x with
   | some v=>(match partsOf r g ps with
     | some l=>some ((i,v)::l)
     | none=>none)
   | none=>none
def iA (r:aC) (g:G) (size:Nat):Nat->List (Nat × Operand)->Option (List (List AV))
 | _,[]=>some []
 | n,(i,x)::ps=>match Nat.beq i n with
   | true=>(match aL r g x with
     | some v=>(match qc v with
       | some x=>(match Nat.beq x.length size with
         | true=>(match iA r g size (n+1) ps with
           | some l=>some (x::l)
           | none=>none)
         | false=>none)
       | none=>none)
     | none=>none)
   | false=>none
def HK:Bool->Option Nat->Option Nat
 | true,t=>t
 | false,_=>none
def pn (off l cap k:Nat):Nat:=if cap=l then off else off+l*k
def po (g:G) (x:AV) (lo hi:Int) (TO:Bool) (K:AV->Prop):Prop:=
 match x with
 | .str s=>gP g (0<=lo/\lo<=hi/\hi<=s.length)/\K (.str ((s.take hi.toNat).drop lo.toNat))
 | .sl k t xs=>gP g (0<=lo/\lo<=hi/\hi<=xs.length)/\K (.sl k (HK TO t) ((xs.take hi.toNat).drop lo.toNat))
 | .aQ b off n k=>gP g (0<=lo/\lo<=hi/\hi<=n/\(lo=0\/lo<hi\/lo=hi))/\K (.aQ b (off+lo.toNat*k) (hi.toNat - lo.toNat) k)
 | .eO b off n c k=>gP g (0<=lo/\lo<=hi/\hi<=c/\hi<=140737488355328)/\K (.eO b (pn off lo.toNat c k) (hi.toNat - lo.toNat) (c - lo.toNat) k)
 | .aS=>gP g (lo=0/\hi=0)/\K .aS
 | _=>False
def yf (P:Program) (t:TypeId):AV->Bool
 | .str _=>(match P.underlying t with|some .string=>true|_=>false)
 | .sl k _ _=>(match P.underlying t with|some (.slice e)=>Nat.beq (P.cellsOf e) k|_=>false)
 | .aQ _ _ _ k=>(match P.underlying t with|some (.slice e)=>Nat.beq (P.cellsOf e) k|_=>false)
 | .eO _ _ _ _ k=>(match P.underlying t with|some (.slice e)=>Nat.beq (P.cellsOf e) k|_=>false)
 | .aS=>(match P.underlying t with|some (.slice e)=>Nat.ble 1 (P.cellsOf e)|_=>false)
 | _=>false
def intOf?:AV->Option Int
 | .int _ n=>some n
 | _=>none
def lenOf?:AV->Option Nat
 | .sl _ _ xs=>some xs.length
 | .aQ _ _ n _=>some n
 | .eO _ _ n _ _=>some n
 | .str s=>some s.length
 | .aS=>some 0
 | _=>none
def pq (r:aC) (g:G):Option Operand->Int->Option Int
 | none,d=>some d
 | some x,_=>match aL r g x with
   | some v=>intOf? v
   | none=>none
def MD (ns:List Int):List UInt8:=(runesBytes ns).data.toList
theorem ME (f:Int->AV):∀ ns:List Int,(ns.map fun n=>[f n]).flatten=ns.map f
 | []=>rfl
 | x::l=>by simp [ME f l]
def uR (P:Program) (s:TypeId) (xs:List (List AV)) (K:AV->Prop):Prop:=
 match P.underlying s with
 | some (.slice e)=>(match P.underlying e with
   | some (.int .i32)=>∃ ns:List Int,(xs=ns.map (fun n=>[AV.int .i32 n])/\ns≠[]/\ns.length<=65536)/\K (.str (MD ns))
   | _=>False)
 | _=>False
def bH (P:Program) (r:aC) (g:G) (h:af) (K:AV->Prop):Op->Prop
 | .move x=>match aL r g x with|some v=>K v|none=>False
 | .assign x=>match aL r g x with|some v=>K v|none=>False
 | .pick (.tmp t) (.tmp a) (.const (.bool false))=>
   (match aL r g (.tmp t) with
   | some (.bool b)=>(match aL r (g++[(t,b,true)]) (.tmp a) with
     | some (.bool x)=>K (.bool (b&&x))
     | _=>False)
   | _=>False)
 | .pick (.tmp t) (.const (.bool true)) (.tmp a)=>
   (match aL r g (.tmp t) with
   | some (.bool b)=>(match aL r (g++[(t,b,false)]) (.tmp a) with
     | some (.bool x)=>K (.bool (b||x))
     | _=>False)
   | _=>False)
 | .binOp op t x y _=>(match aL r g x with
   | some u=>(match aL r g y with
     | some v=>tO P g t op u v K
     | none=>False)
   | none=>False)
 | .unOp .not _ x=>(match aL r g x with|some (.bool b)=>K (.bool (!b))|_=>False)
 | .fieldAddr s x f=>(match aL r g x with
   | some (.ai cs)=>(match uQ P s f with
     | some fd=>(match iR fd.offset cs with
       | some l=>(match Nat.ble 1 (P.cellsOf fd.type) with|true=>K (.ai l)|false=>False)
       | none=>False)
     | none=>False)
   | some (.ba b o)=>(match uQ P s f with
     | some fd=>(match Nat.ble 1 (P.cellsOf fd.type) with|true=>K (.ba b (o+fd.offset))|false=>False)
     | none=>False)
   | _=>False)
 | .field s x f=>(match aL r g x with
   | some (.agg cs)=>(match uQ P s f with
     | some fd=>(match iR fd.offset cs with
       | some l=>gv P fd.type l K
       | none=>False)
     | none=>False)
   | _=>False)
 | .load t x=>(match aL r g x with
   | some (.ai cs)=>gv P t cs K
   | some (.ba b o)=>∃ cs l,(b,Ob.vec cs)∈h/\iR o cs=some l/\gv P t l K
   | _=>False)
 | .box t x=>(match aL r g x with
   | some v=>(match qc v with
     | some l=>(match Nat.beq l.length (P.cellsOf t) with|true=>K (.ai l)|false=>False)
     | none=>False)
   | none=>False)
 | .indexAddr t x i=>(match P.underlying t with
   | some (.slice e)=>(match aL r g x with
     | some (.sl k _ xs)=>(match Nat.beq k (P.cellsOf e) with
       | true=>(match aL r g i with
         | some (.int _ n)=>∃ (j:Nat) (y:List AV),gP g (n=(j:Int)/\xs[j]?=some y)/\K (.ai y)
         | _=>False)
       | false=>False)
     | some (.aQ b off len k)=>(match Nat.beq k (P.cellsOf e) with
       | true=>(match aL r g i with
         | some (.int _ n)=>∃ (j:Nat),gP g (n=(j:Int)/\j<len)/\K (.ba b (off+j*k))
         | _=>False)
       | false=>False)
     | _=>False)
   | some (.array m e)=>(match P.info? e with
     | some _=>(match aL r g x with
       | some (.ai cs)=>(match aL r g i with
         | some (.int _ n)=>∃ (j:Nat) (l:List AV),gP g (n=(j:Int)/\j<m)/\iR (j*P.cellsOf e) cs=some l/\K (.ai l)
         | _=>False)
       | _=>False)
     | none=>False)
   | _=>False)
 | .index t x i=>(match P.underlying t with
   | some .string=>(match aL r g x with
     | some (.str s)=>(match aL r g i with
       | some (.int _ n)=>∃ (j:Nat) (y:UInt8),gP g (n=(j:Int)/\s[j]?=some y)/\K (.int .u8 y.toNat)
       | _=>False)
     | _=>False)
   | _=>False)
 | .nilCheck x=>(match aL r g x with
   | some (.ai cs)=>K (.ai cs)
   | some (.ba b o)=>K (.ba b o)
   | _=>False)
 | .extract x i=>(match aL r g x with
   | some (.aB vs)=>(match iR i vs with
     | some (v::_)=>K v
     | _=>False)
   | _=>False)
 | .build t parts=>(match P.underlying t with
   | some (.struct fs)=>(match placesOf P fs.toList with
     | some pl=>(match partsOf r g parts.toList with
       | some ps=>(match iQ P t with
         | some z=>(match wu ps (fun i=>pl[i]?) z with
           | some cs=>K (.agg cs)
           | none=>False)
         | none=>False)
       | none=>False)
     | none=>False)
   | some (.array _ e)=>(match P.info? e with
     | some ie=>(match partsOf r g parts.toList with
       | some ps=>(match iQ P t with
         | some z=>(match wu ps (fun i=>some (i*ie.size,ie.size)) z with
           | some cs=>K (.agg cs)
           | none=>False)
         | none=>False)
       | none=>False)
     | none=>False)
   | _=>False)
 | .buildSlice t n parts=>(match P.underlying t with
   | some (.slice e)=>(match iA r g (P.cellsOf e) 0 parts.toList with
     | some l=>(match Nat.beq l.length n with
       | true=>(match Nat.ble 1 (P.cellsOf e) with
         | true=>(match Nat.ble (n*P.cellsOf e) 65536 with
           | true=>(match iQ P e with
             | some z=>(match Nat.beq z.length (P.cellsOf e) with
               | true=>K (.sl (P.cellsOf e) none l)
               | false=>False)
             | none=>False)
           | false=>False)
         | false=>False)
       | false=>False)
     | none=>False)
   | _=>False)
 | .slice t x lo hi none=>(match aL r g x with
   | some v=>(match yf P t v with
     | true=>(match lenOf? v with
       | some n=>(match pq r g lo 0 with
         | some a=>(match pq r g hi n with
           | some b=>po g v a b (match hi with|none=>true|some _=>false) K
           | none=>False)
         | none=>False)
       | none=>False)
     | false=>False)
   | none=>False)
 | .convert s t x=>(match P.underlying s with
   | some _=>(match P.underlying t,aL r g x with
     | some (.int k),some (.int _ n)=>arith g k n K
     | some .string,some (.str s)=>K (.str s)
     | some .string,some (.sl 1 _ xs)=>uR P s xs K
     | _,_=>False)
   | none=>False)
 | .makeFunc (.func f) first bP=>(match first.toList with
   | []=>(match bQ r g bP.toList with
     | some l=>K (.fn f l)
     | none=>False)
   | _=>False)
 | .call cl=>(match cl.callee with
   | .builtin .len=>(match cl.argTypes.toList with
     | [t]=>(match bQ r g cl.args.toList with
       | some [x]=>tQ (P.underlying t) x K
       | _=>False)
     | _=>False)
   | .builtin .cap=>(match cl.argTypes.toList with
     | [t]=>(match P.underlying t with
       | some (.slice _)=>(match bQ r g cl.args.toList with
         | some [.eO _ _ _ c _]=>K (.int .i64 c)
         | _=>False)
       | _=>False)
     | _=>False)
   | .builtin .min=>(match bQ r g cl.args.toList with
     | some (.int .i64 x::l)=>(match foldI min x l with
       | some n=>K (.int .i64 n)
       | none=>False)
     | _=>False)
   | .builtin .max=>(match bQ r g cl.args.toList with
     | some (.int .i64 x::l)=>(match foldI max x l with
       | some n=>K (.int .i64 n)
       | none=>False)
     | _=>False)
   | .value (.func f)=>(match bQ r g cl.args.toList with
     | some vs=>∃ v,gP g (ab P f vs h v)/\K v
     | none=>False)
   | .value (.tmp t)=>(match aL r g (.tmp t) with
     | some (.fn f bP)=>(match bQ r g cl.args.toList with
       | some vs=>∃ v,gP g (ab P f (vs++bP) h v)/\K v
       | none=>False)
     | _=>False)
   | _=>False)
 | .lookup t x i ok=>(match P.underlying t with
   | some (.map kt et)=>(match aL r g i with
     | some k=>(match zeroV P et with
       | some z=>(match aL r g x with
         | some (.omap b)=>∃ es v f,(b,Ob.map es)∈h/\gP g (sz P kt k/\yd P kt k es z=some (v,f))/\K (sA ok v f)
         | some .BE=>gP g (sz P kt k)/\K (sA ok z false)
         | _=>False)
       | none=>False)
     | none=>False)
   | _=>False)
 | _=>False
def dn (cs:List AV) (o:Nat) (vs:List AV):List AV:=cs.take o++vs++cs.drop (o+vs.length)
def gS (n:Nat) (z:List AV):List AV:=(List.replicate n z).flatten
def aN:Nat:=4294967296
def rq (k:Nat):AV->Option (List (List AV))
 | .sl k' _ ys=>(match Nat.beq k' k with|true=>some ys|false=>none)
 | .aS=>some []
 | .wo k'=>(match Nat.beq k' k with|true=>some []|false=>none)
 | .str s=>(match Nat.beq 1 k with|true=>some (s.map fun b=>[AV.int .u8 b.toNat])|false=>none)
 | _=>none
def sB (P:Program) (t:TypeId):Bool:=
 match P.underlying t with
 | some (.slice _)=>true
 | some .string=>true
 | _=>false
def kI (s:List UInt8) (pos:Nat):Nat × Nat:=Utf8.decode ⟨s.toArray⟩ pos
def cy (P:Program) (r:aC) (h:af) (K:AV->af->Prop):Op->Prop
 | .box t x=>(match aL r [] x with
   | some v=>(match qc v with
     | some l=>(match Nat.beq l.length (P.cellsOf t) with|true=>∀ b,K (.ba b 0) ((b,.vec l)::h)|false=>False)
     | none=>False)
   | none=>False)
 | .alloc t=>(match iQ P t with
   | some z=>∀ b,K (.ba b 0) ((b,.vec z)::h)
   | none=>False)
 | .store t x y=>(match aL r [] x with
   | some (.ba b o)=>(match aL r [] y with
     | some v=>(match qc v with
       | some l=>(match Nat.beq l.length (P.cellsOf t) with
         | true=>∃ cs h',cP b (.vec cs) b (.vec (dn cs o l)) h h'/\(0<l.length/\o+l.length<=cs.length)/\K .unit h'
         | false=>False)
       | none=>False)
     | none=>False)
   | _=>False)
 | .binOp .add _ x y _=>(match aL r [] x with
   | some (.int .i64 a)=>(match aL r [] y with
     | some (.int .i64 b)=>K (.int .i64 (IntKind.i64.wrap (a+b))) h
     | _=>False)
   | _=>False)
 | .makeMap _ none=>∀ b,K (.omap b) ((b,.map [])::h)
 | .mapUpdate t m k x=>(match P.underlying t with
   | some (.map kt _)=>(match aL r [] m with
     | some (.omap b)=>(match aL r [] k with
       | some kv=>(match aL r [] x with
         | some v=>∃ es h',cP b (.map es) b (.map (pk P kt kv v es)) h h'/\(sz P kt kv/\rn P kt kv es≠none)/\K .unit h'
         | none=>False)
       | none=>False)
     | _=>False)
   | _=>False)
 | .range t x=>(match P.underlying t with
   | some (.map _ _)=>(match aL r [] x with
     | some (.omap m)=>∃ es,(m,Ob.map es)∈h/\∀ bs cl,bs.length=es.length/\bs.Nodup->∃ h',cP m (.map es) m (.uP es bs cl) h h'/\∀ it,K (.tN it) ((it,.iter m cl [])::h')
     | _=>False)
   | some .string=>(match aL r [] x with
     | some (.str s)=>∀ it,K (.tN it) ((it,.oB s 0)::h)
     | _=>False)
   | _=>False)
 | .next x true=>(match aL r [] x with
   | some (.tN it)=>∃ s pos,(it,Ob.oB s pos)∈h/\(s.length<=pos->K (.aB [.bool false]) h) /\
      (pos<s.length->∃ h',cP it (.oB s pos) it (.oB s (pos+(kI s pos).2)) h h'/\K (.aB [.bool true,.int .i64 pos,.int .i32 (kI s pos).1]) h')
   | _=>False)
 | .next x false=>(match aL r [] x with
   | some (.tN it)=>∃ m cl seen es bs,(it,Ob.iter m cl seen)∈h/\(m,Ob.uP es bs cl)∈h/\((∀ b∈bs,b∈seen)->K (.aB [.bool false]) h) /\
      ∀ (i:Nat) b e,bs[i]?=some b->es[i]?=some e->b ∉ seen->∃ h',cP it (.iter m cl seen) it (.iter m cl (seen++[b])) h h'/\K (.aB [.bool true,e.1,e.2]) h'
   | _=>False)
 | .entry x=>(match aL r [] x with
   | some (.tN it)=>∃ m cl seen es bs,(it,Ob.iter m cl seen)∈h/\(m,Ob.uP es bs cl)∈h/\∃ (i:Nat) (b:Nat) (e:AV × AV) (s0:List Nat),seen=s0++[b]/\bs[i]?=some b/\es[i]?=some e/\K (.aB [e.1,e.2]) h
   | _=>False)
 | .makeSlice t x y=>(match P.underlying t with
   | some (.slice e)=>(match aL r [] x with
     | some (.int _ n)=>(match aL r [] y with
       | some (.int _ m)=>(match iQ P e with
         | some z=>(match Nat.beq z.length (P.cellsOf e) with
           | true=>(match Nat.ble 1 z.length with
             | true=>(match Nat.ble (P.bytesOf e) 4096 with
               | true=>(n=m/\0<=n/\n<=4294967296)/\∀ b,K (.aQ b 0 n.toNat z.length) ((b,.vec (gS n.toNat z))::h)
               | false=>False)
             | false=>False)
           | false=>False)
         | none=>False)
       | _=>False)
     | _=>False)
   | _=>False)
 | .buildSlice t n parts=>(match P.underlying t with
   | some (.slice e)=>(match iA r [] (P.cellsOf e) 0 parts.toList with
     | some l=>(match Nat.beq l.length n with
       | true=>(match Nat.ble 1 (P.cellsOf e) with
         | true=>(match Nat.ble (n*P.cellsOf e) 65536 with
           | true=>(match iQ P e with
             | some z=>(match Nat.beq z.length (P.cellsOf e) with
               | true=>∀ q,K (.sl (P.cellsOf e) (some q) l) ((q,.tok)::h)
               | false=>False)
             | none=>False)
           | false=>False)
         | false=>False)
       | false=>False)
     | none=>False)
   | _=>False)
 | .call cl=>(match cl.callee with
   | .value (.func f)=>(match bQ r [] cl.args.toList with
     | some vs=>aw P f vs h K
     | none=>False)
   | .value (.tmp t)=>(match aL r [] (.tmp t) with
     | some (.fn f bP)=>(match bQ r [] cl.args.toList with
       | some vs=>aw P f (vs++bP) h K
       | none=>False)
     | _=>False)
   | .builtin .append=>(match cl.argTypes.toList with
     | [t,tx]=>(match P.underlying t,sB P tx with
       | some (.slice e),true=>(match Nat.ble 1 (P.cellsOf e) with
         | true=>(match Nat.ble (P.bytesOf e) 4096 with
           | true=>(match iQ P e with
            | none=>False
            | some z=>match Nat.beq z.length (P.cellsOf e) with
             | false=>False
             | true=>match bQ r [] cl.args.toList with
             | some [.aS,.aQ b2 o2 n2 k2]=>(match Nat.beq k2 (P.cellsOf e) with
               | true=>∃ (eH:List AV) (ys:List (List AV)),(b2,Ob.vec eH)∈h/\((eH.drop o2).take (n2*k2)=ys.flatten/\(∀ z∈ys,z.length=k2)/\ys.length=n2)/\(0<n2/\n2<=aN)/\∀ b,K (.aQ b 0 n2 k2) ((b,.vec ys.flatten)::h)
               | false=>False)
             | some [.eO b off n c k,.aQ b2 o2 n2 k2]=>(match Nat.beq k (P.cellsOf e),Nat.beq k2 k with
               | true,true=>∃ (eH:List AV) (ys:List (List AV)),(b2,Ob.vec eH)∈h/\((eH.drop o2).take (n2*k2)=ys.flatten/\(∀ z∈ys,z.length=k2)/\ys.length=n2)/\n+n2<=aN/\∃ cs,(b,Ob.vec cs)∈h /\
                 ((n+n2<=c/\cs.length=off+n*k/\∃ h',cP b (.vec cs) b (.vec (cs++ys.flatten)) h h'/\K (.eO b off (n+n2) c k) h') \/
                  (c<n+n2/\(n=0\/off+n*k<=cs.length)/\∀ q,K (.aQ q 0 (n+n2) k) ((q,.vec ((cs.drop off).take (n*k)++ys.flatten))::h)))
               | _,_=>False)
             | some [.aS,y]=>(match rq (P.cellsOf e) y with
               | some ys=>ys.length<=aN/\∀ q,K (.sl (P.cellsOf e) (some q) ys) ((q,.tok)::h)
               | none=>False)
             | some [.gu,y]=>(match rq (P.cellsOf e) y with
               | some ys=>(0<ys.length/\ys.length<=aN)/\∀ b,K (.aQ b 0 ys.length (P.cellsOf e)) ((b,.vec ys.flatten)::h)
               | none=>False)
             | some [.aQ b 0 n k,y]=>(match Nat.beq k (P.cellsOf e) with
               | true=>(match rq k y with
                 | some ys=>∃ cs,(b,Ob.vec cs)∈h/\(cs.length=n*k/\n+ys.length<=aN)/\∀ b',∃ h',cP b (.vec cs) b' (.vec (cs++ys.flatten)) h h'/\K (.aQ b' 0 (n+ys.length) k) h'
                 | none=>False)
               | false=>False)
             | some [.sl k (some q) xs,.aQ b2 o2 n2 k2]=>(match Nat.beq k (P.cellsOf e),Nat.beq k2 k with
               | true,true=>∃ cs ys,(b2,Ob.vec cs)∈h/\((cs.drop o2).take (n2*k2)=ys.flatten/\(∀ z∈ys,z.length=k2)/\ys.length=n2)/\(xs++ys).length<=aN/\∀ q',∃ h',cP q .tok q' .tok h h'/\K (.sl k (some q') (xs++ys)) h'
               | _,_=>False)
             | some [.sl k (some q) xs,y]=>(match Nat.beq k (P.cellsOf e) with
               | true=>(match rq k y with
                 | some ys=>(xs++ys).length<=aN/\∀ q',∃ h',cP q .tok q' .tok h h'/\K (.sl k (some q') (xs++ys)) h'
                 | none=>False)
               | false=>False)
             | _=>False)
           | false=>False)
         | false=>False)
       | some (.slice e),false=>(match P.underlying tx with
         | some (.int _)=>(match Nat.ble 1 (P.cellsOf e) with
           | true=>(match Nat.ble (P.bytesOf e) 4096 with
             | true=>(match iQ P e with
               | some z=>(match Nat.beq z.length (P.cellsOf e) with
                 | true=>(match bQ r [] cl.args.toList with
                   | some [.eO b off n c k,.int _ m]=>(match Nat.beq k (P.cellsOf e) with
                     | true=>∃ (cs:List AV),(b,Ob.vec cs)∈h/\(0<m/\(c:Int)<n+m/\(n:Int)+m<=4294967296/\off+n*k<=cs.length)/\∀ q,K (.aQ q 0 (n+m.toNat) k) ((q,.vec ((cs.drop off).take (n*k)++gS m.toNat z))::h)
                     | false=>False)
                   | _=>False)
                 | false=>False)
               | none=>False)
             | false=>False)
           | false=>False)
         | _=>False)
       | _,_=>False)
     | _=>False)
   | .builtin .copy=>(match cl.argTypes.toList with
     | [t,_]=>(match P.underlying t with
       | some (.slice e)=>(match bQ r [] cl.args.toList with
         | some [.aQ b o n k,.aQ b2 o2 n2 k2]=>(match Nat.beq k (P.cellsOf e),Nat.beq k2 k,Nat.ble 1 (P.cellsOf e) with
           | true,true,true=>∃ (eH:List AV) (ys:List (List AV)),(b2,Ob.vec eH)∈h/\((eH.drop o2).take (min n2 n*k2)=ys.flatten/\(∀ z∈ys,z.length=k2)/\ys.length=min n2 n) /\
              ∃ cs h',cP b (.vec cs) b (.vec (dn cs o ys.flatten)) h h'/\(0<min n2 n/\o+ys.flatten.length<=cs.length)/\K (.int .i64 (min n2 n:Nat)) h'
           | _,_,_=>False)
         | some [.aQ b o n k,.eO b2 o2 n2 _ k2]=>(match Nat.beq k (P.cellsOf e),Nat.beq k2 k,Nat.ble 1 (P.cellsOf e) with
           | true,true,true=>∃ (eH:List AV) (ys:List (List AV)),(b2,Ob.vec eH)∈h/\((eH.drop o2).take (min n2 n*k2)=ys.flatten/\(∀ z∈ys,z.length=k2)/\ys.length=min n2 n) /\
              ∃ cs h',cP b (.vec cs) b (.vec (dn cs o ys.flatten)) h h'/\(0<min n2 n/\o+ys.flatten.length<=cs.length)/\K (.int .i64 (min n2 n:Nat)) h'
           | _,_,_=>False)
         | some [.eO b o n _ k,.eO b2 o2 n2 _ k2]=>(match Nat.beq k (P.cellsOf e),Nat.beq k2 k,Nat.ble 1 (P.cellsOf e) with
           | true,true,true=>∃ (eH:List AV) (ys:List (List AV)),(b2,Ob.vec eH)∈h/\((eH.drop o2).take (min n2 n*k2)=ys.flatten/\(∀ z∈ys,z.length=k2)/\ys.length=min n2 n) /\
              ∃ cs h',cP b (.vec cs) b (.vec (dn cs o ys.flatten)) h h'/\(0<min n2 n/\o<=cs.length)/\K (.int .i64 (min n2 n:Nat)) h'
           | _,_,_=>False)
         | some [.eO b o n _ k,.aQ b2 o2 n2 k2]=>(match Nat.beq k (P.cellsOf e),Nat.beq k2 k,Nat.ble 1 (P.cellsOf e) with
           | true,true,true=>∃ (eH:List AV) (ys:List (List AV)),(b2,Ob.vec eH)∈h/\((eH.drop o2).take (min n2 n*k2)=ys.flatten/\(∀ z∈ys,z.length=k2)/\ys.length=min n2 n) /\
              ∃ cs h',cP b (.vec cs) b (.vec (dn cs o ys.flatten)) h h'/\(0<min n2 n/\o<=cs.length)/\K (.int .i64 (min n2 n:Nat)) h'
           | _,_,_=>False)
         | some [.aQ b o n k,y]=>(match Nat.beq k (P.cellsOf e),Nat.ble 1 (P.cellsOf e) with
           | true,true=>(match rq k y with
             | some ys=>∃ cs h',cP b (.vec cs) b (.vec (dn cs o ys.flatten)) h h'/\(0<ys.length/\ys.length<=n/\o+ys.flatten.length<=cs.length)/\K (.int .i64 ys.length) h'
             | none=>False)
           | _,_=>False)
         | _=>False)
       | _=>False)
     | _=>False)
   | .builtin .clear=>(match cl.argTypes.toList with
     | [t]=>(match P.underlying t with
       | some (.slice e)=>(match iQ P e with
         | some z=>(match bQ r [] cl.args.toList with
           | some [.aQ b o n k]=>(match Nat.beq z.length k with
             | true=>∃ cs h',cP b (.vec cs) b (.vec (dn cs o (gS n z))) h h'/\(0<n/\o+n*k<=cs.length)/\K (.aB []) h'
             | false=>False)
           | _=>False)
         | none=>False)
       | _=>False)
     | _=>False)
   | _=>False)
 | _=>False
def uS (P:Program) (r:aC) (h:af) (K:AV->af->Prop) (cl:Call):Prop:=
 match cl.callee with
 | .builtin .append=>(match cl.argTypes.toList with
   | [t,tx]=>(match P.underlying t,sB P tx with
     | some (.slice e),true=>(match Nat.ble 1 (P.cellsOf e) with
       | true=>(match Nat.ble (P.bytesOf e) 4096 with
         | true=>(match iQ P e with
           | none=>False
           | some z=>match Nat.beq z.length (P.cellsOf e) with
             | false=>False
             | true=>match bQ r [] cl.args.toList with
               | some [.aS,y]=>(match rq (P.cellsOf e) y with
                 | some ys=>(0<ys.length/\ys.length<=aN)/\∀ b,K (.aQ b 0 ys.length (P.cellsOf e)) ((b,.vec ys.flatten)::h)
                 | none=>False)
               | some [.eO b off 0 0 k,y]=>(match Nat.beq k (P.cellsOf e) with
                 | true=>(match rq k y with
                   | some ys=>((∃ cs,(b,Ob.vec cs)∈h)/\0<ys.length/\ys.length<=aN)/\∀ q,K (.aQ q 0 ys.length k) ((q,.vec ys.flatten)::h)
                   | none=>False)
                 | false=>False)
               | _=>False)
         | false=>False)
       | false=>False)
     | _,_=>False)
   | _=>False)
 | _=>False
def uT (P:Program) (r:aC) (h:af) (K:AV->af->Prop) (t:TypeId) (n:Nat) (parts:Array (Nat × Operand)):Prop:=
 match P.underlying t with
 | some (.slice e)=>(match iA r [] (P.cellsOf e) 0 parts.toList with
   | some l=>(match Nat.beq l.length n,Nat.ble 1 (P.cellsOf e),Nat.ble (n*P.cellsOf e) 65536 with
     | true,true,true=>(match iQ P e with
       | some z=>(match Nat.beq z.length (P.cellsOf e) with
         | true=>(match n with
           | 0=>∀ b,K (.eO b 0 0 0 (P.cellsOf e)) ((b,.vec [])::h)
           | n+1=>∀ b,K (.aQ b 0 (n+1) (P.cellsOf e)) ((b,.vec l.flatten)::h))
         | false=>False)
       | none=>False)
     | _,_,_=>False)
   | none=>False)
 | _=>False
def gJ (P:Program) (own jE:List Nat) (d:Option Nat) (r:aC) (h:af) (K:AV->af->Prop) (op:Op):Prop:=
 match op,d with
 | .call cl,some d=>(match rp own d with
   | true=>uS P r h K cl
   | false=>cy P r h K (.call cl))
 | .buildSlice t n parts,some d=>(match rp jE d with
   | true=>uT P r h K t n parts
   | false=>cy P r h K (.buildSlice t n parts))
 | _,_=>cy P r h K op
def pt:aC->Nat->Bool
 | [],_=>true
 | (_,[],_)::r,d=>pt r d
 | (_,(e::g),_)::r,d=>match EC (e::g) d with
   | true=>false
   | false=>pt r d
where EC:G->Nat->Bool
 | [],_=>false
 | (t,_,_)::g,d=>match Nat.beq t d with
   | true=>true
   | false=>EC g d
def wx (c:av) (d:Option Nat):Op->Bool
 | .box _ _|.buildSlice _ _ _|.binOp _ _ _ _ _=>match d with
   | some n=>rp c.own n
   | none=>false
 | .alloc _|.store _ _ _|.makeMap _ _|.makeSlice _ _ _|.mapUpdate _ _ _ _|.range _ _|.next _ _|.entry _=>true
 | .call cl=>(match cl.callee with
   | .builtin .append=>true
   | .builtin .clear=>true
   | .builtin .copy=>true
   | .value _=>true
   | _=>false)
 | _=>false
def yg:Op->Bool
 | .call cl=>(match cl.callee with
   | .value _=>true
   | _=>false)
 | _=>false
def pw (r:aC) (k:aC->Prop):List Nat->Prop
 | []=>k []
 | t::ts=>match bl r t with
   | some ([],v)=>pw r (fun l=>k ((t,[],v)::l)) ts
   | _=>pw r k ts
def fS (n:Nat) (d:Option Nat) (g:G) (v:AV) (r:aC) (K:aC->Prop):Prop:=
 match d with
 | none=>K r
 | some d=>match Nat.blt d n with
   | true=>(match pt ((d,g,v)::r) d with
     | true=>K ((d,g,v)::r)
     | false=>False)
   | false=>False
def yh (P:Program) (r:aC) (h:af) (t:TypeId) (d:Nat) (y:Operand) (K:aC->af->Prop):Prop:=
 match aL r [] (.tmp d) with
 | some (.ba b 0)=>(match aL r [] y with
   | some v=>(match qc v with
     | some l=>(match Nat.beq l.length (P.cellsOf t) with
       | true=>∃ cs h',bj b (.vec cs) h h'/\(0<l.length/\cs.length=l.length)/\K ((d,[],.ai l)::r) h'
       | false=>False)
     | none=>False)
   | none=>False)
 | _=>False
def uU (tj:Nat) (w:Bool):G->G
 | []=>[]
 | (t,b,v)::g=>match Nat.beq t tj with
   | true=>(match Ez v w with
     | true=>uU tj w g
     | false=>(t,b,v)::uU tj w g)
   | false=>(t,b,v)::uU tj w g
def tT (tj:Nat) (w:Bool):aC->aC
 | []=>[]
 | (t,g,v)::r=>(t,uU tj w g,v)::tT tj w r
def kJ (P:Program) (c:av) (n:Nat) (all:List Oper) (K:aC->af->Prop):List Oper->aC->af->Prop
 | [],r,h=>pw r (fun r'=>K r' h) c.my
 | o::os,r,h=>
   match o.guard with
   | none=>(match wx c o.dst o.op with
     | true=>(match o.op,o.dst with
       | .store t (.tmp d) y,none=>(match rp c.ye d with
         | true=>yh P r h t d y (kJ P c n all K os)
         | false=>cy P r h (fun v h'=>fS n o.dst [] v r fun r'=>kJ P c n all K os r' h') o.op)
       | _,_=>gJ P c.own c.lc o.dst r h (fun v h'=>fS n o.dst [] v r fun r'=>kJ P c n all K os r' h') o.op)
     | false=>bH P r [] h (fun v=>fS n o.dst [] v r fun r'=>kJ P c n all K os r' h) o.op)
   | some (j,w)=>match all[j]? with
     | some oj=>(match oj.dst with
       | some tj=>(match bl r tj with
         | some (gj,.bool b)=>(match yg o.op,(match o.dst with|some d=>rp c.HJ d|none=>false) with
           | true,true=>(match gj with
             | []=>(b=w->cy P (tT tj w r) h (fun v h'=>fS n o.dst [] v (tT tj w r) fun r'=>kJ P c n all K os r' h') o.op) /\
                (b≠w->fS n o.dst [(tj,b,w)] (.bool false) r fun r'=>kJ P c n all K os r' h)
             | _=>False)
           | _,_=>(match (match yg o.op with|true=>false|false=>wx c o.dst o.op) with
             | true=>False
             | false=>bH P r (gj++[(tj,b,w)]) h (fun v=>fS n o.dst (gj++[(tj,b,w)]) v r fun r'=>kJ P c n all K os r' h) o.op))
         | _=>False)
       | none=>False)
     | none=>False
def lq (cl:List Nat) (i:Nat):Nat:=match cl[i]? with|some m=>m|none=>0
def wy (cl:List Nat):List Edge->Nat
 | []=>0
 | e::es=>match Region.binds .any e with
   | true=>Nat.lor (Nat.lor (2 ^ e.on) (lq cl e.on)) (wy cl es)
   | false=>wy cl es
def iS:List Oper->List Nat->List Nat
 | [],acc=>acc
 | o::os,acc=>iS os (acc++[wy acc o.after.toList])
def ru:List Operand->List Nat
 | []=>[]
 | .tmp t::xs=>t::ru xs
 | _::xs=>ru xs
def jg (all:List Oper) (o:Oper):List Nat:=
 (match o.guard with
  | some (j,_)=>(match all[j]? with
    | some oj=>(match oj.dst with|some t=>[t]|none=>[])
    | none=>[])
  | none=>[])++ru o.op.operands.toList
def isDst (t:Nat) (o:Oper):Bool:=match o.dst with|some d=>Nat.beq d t|none=>false
def MF (cl:List Nat) (all:List (Nat × Oper)) (i t:Nat):Bool:=all.all fun (j,o)=>!isDst t o||Nat.testBit (lq cl i) j||Nat.testBit (lq cl j) i
def aJ (all:List Oper) (ord:List Nat):Bool:=
 let cl:=iS all []
 let ix:=all.zipIdx.map fun (o,i)=>(i,o)
 (ix.all fun (i,o)=>(o.after.toList.all fun e=>!Region.binds .any e||Nat.blt e.on i)&&Nat.beq (lq cl i) (wy cl o.after.toList)) &&
 Nat.beq ord.length all.length&&((List.range all.length).all fun i=>ord.contains i)&&ED ord &&
 EE [] ord &&
 (ix.all fun (i,o)=>(jg all o).all fun t=>MF cl ix i t) &&
 (ix.all fun (i,o)=>ix.all fun (j,o')=>Nat.beq i j||(match o.dst with|some d=>!isDst d o'|none=>true))
where
 ED:List Nat->Bool
  | []=>true
  | x::xs=>!xs.contains x&&ED xs
 EE:List Nat->List Nat->Bool
  | _,[]=>true
  | pre,i::rest=>(match all[i]? with
    | some o=>o.after.toList.all fun e=>!Region.binds .any e||pre.contains e.on
    | none=>false)&&EE (i::pre) rest
def yi (cl:List Nat) (all:List Oper) (i:Nat):G->Bool
 | []=>true
 | (t,_,_)::g=>(all.zipIdx.all fun (o,j)=>!isDst t o||Nat.testBit (lq cl i) j)&&yi cl all i g
def BJ (cl:List Nat) (i:Nat):List Nat->Bool
 | []=>true
 | j::rest=>match Nat.testBit (lq cl j) i with
   | true=>BJ cl i rest
   | false=>false
def BK (cl:List Nat) (i:Nat):List Nat->Bool
 | []=>true
 | j::rest=>match Nat.testBit (lq cl i) j with
   | true=>BK cl i rest
   | false=>false
def reads (op:Op):Bool:=match op with
 | .load _ _=>true
 | .lookup _ _ _ _=>true
 | _=>false
def calm (r:aC):Op->Bool
 | .call cl=>(match cl.callee with
   | .builtin .append=>(match bQ r [] cl.args.toList with
     | some (.aS::_)=>true
     | some (.sl _ (some _) _::_)=>true
     | _=>false)
   | _=>false)
 | _=>false
def uV (cl:List Nat) (all:List Oper) (i:Nat):List Nat->Bool
 | []=>true
 | j::rest=>match Nat.testBit (lq cl i) j with
   | true=>uV cl all i rest
   | false=>(match all[j]? with
     | some o=>(match reads o.op with
       | true=>uV cl all i rest
       | false=>false)
     | none=>false)
def sC:Op->Bool
 | .alloc _=>true
 | .box _ _=>true
 | .makeMap _ _=>true
 | .makeSlice _ _ _=>true
 | .buildSlice _ _ _=>true
 | _=>false
def rv (r:aC) (g:G):Op->Bool
 | .load _ x=>(match aL r g x with|some (.ai _)=>true|_=>false)
 | .lookup _ _ _ _=>false
 | .call cl=>(match cl.callee with|.builtin _=>true|_=>false)
 | _=>true
def dS (P:Program) (all:List Oper) (r:aC) (h:af) (K:G->AV->Prop) (o:Oper):Prop:=
 match o.guard with
 | none=>bH P r [] h (K []) o.op
 | some (j,w)=>match all[j]? with
   | some oj=>(match oj.dst with
     | some tj=>(match bl r tj with
       | some (gj,.bool b)=>bH P r (gj++[(tj,b,w)]) h (K (gj++[(tj,b,w)])) o.op
       | _=>False)
     | none=>False)
   | none=>False
def Ah (c:av) (o:Oper):Bool:=
 match yg o.op with
 | true=>(match o.dst with|some d=>rp c.lc d|none=>true)
 | false=>wx c o.dst o.op
def tU (K:aC->af->Prop):List Nat->aC->af->Prop
 | [],r,h=>K r h
 | d::ds,r,h=>match bl r d with
   | some ([],.ba b 0)=>∃ cs h',bj b (.vec cs) h h'/\tU K ds ((d,[],.ai cs)::r) h'
   | _=>False
def sD (P:Program) (c:av) (n:Nat) (all:List Oper) (cl:List Nat) (K:aC->af->Prop):List Nat->List Nat->aC->af->Prop
 | [],_,r,h=>K r h
 | i::rest,nf,r,h=>match all[i]? with
   | none=>False
   | some o=>match Ah c o with
     | true=>(match o.guard with
       | none=>(match BJ cl i rest with
         | true=>(match (match sC o.op with|true=>true|false=>(match calm r o.op with|true=>uV cl all i nf|false=>BK cl i nf)) with
           | true=>gJ P c.own c.lc o.dst r h (fun v h'=>fS n o.dst [] v r fun r'=>sD P c n all cl K rest nf r' h') o.op
           | false=>False)
         | false=>False)
       | some _=>False)
     | false=>dS P all r h (fun g v=>match yi cl all i g with
       | true=>fS n o.dst g v r fun r'=>sD P c n all cl K rest (match rv r g o.op with|true=>nf|false=>i::nf) r' h
       | false=>False) o
def BL:List (Nat × List Nat × List Nat)->Nat->Option (List Nat × List Nat)
 | [],_=>none
 | (i,x)::l,n=>match Nat.beq i n with
   | true=>some x
   | false=>BL l n
inductive Ex where
 | normal|exit (id:Nat)|ret
def dj (a:Act) (g:G):Prop:=∀ e∈g,a.tmps[e.1]?=some (.bool e.2.2)
structure bK (n:Nat) (X:Nat->Prop) (g:Gh) (r:aC) (h:af) (a:Act) (w:World):Prop where
 cw:CW X g h w
 lr:∀ t gg v,bl r t=some (gg,v) ->
  (dj a gg->(∀ e∈gg,e.2.1=e.2.2)/\∃ u,a.tmps[t]?=some u/\ae ⟨g,live X h,w⟩ v u)/\(¬ dj a gg->a.tmps[t]?=some undef)
 defers:a.defers=[]
 size:a.tmps.size=n
def Ex.toExit:Ex->Exit
 | .normal=>.normal
 | .exit i=>.exit i
 | .ret=>.ret
structure Holds (P:Program) (n:Nat) (X:Nat->Prop) (c:Code) (Q:Ex->aC->af->Prop) (r:aC) (h:af):Prop where
 holds:∀ g a w,bK n X g r h a w->c.wp P (fun e a' w'=>∃ ex g' r' h',e=Ex.toExit ex/\Q ex r' h'/\bK n X g' r' h' a' w'/\Step X g h w g' h' w') a w
def cw (P:Program) (c:av) (n:Nat) (X:Nat->Prop):Code->(Ex->aC->af->Prop)->aC->af->Prop
 | .skip,Q,r,h=>Q .normal r h
 | .region id ops draw,Q,r,h=>(match draw with
   | false=>kJ P c n ops.toList (Q .normal) ops.toList r h
   | true=>(match BL c.EB id with
     | some (ord,fz)=>aJ ops.toList ord=true /\
        sD P c n ops.toList (iS ops.toList []) (fun r' h'=>tU (fun sE qi=>pw sE (fun r3=>Q .normal r3 qi) c.my) fz r' h') ord [] r h
     | none=>Holds P n X (.region id ops true) Q r h))
 | .seq a b,Q,r,h=>cw P c n X a (fun e r' h'=>match e with
   | .normal=>cw P c n X b Q r' h'
   | e=>Q e r' h') r h
 | .cond x a b,Q,r,h=>(match aL r [] x with
   | some (.bool t)=>(t=true->cw P c n X a Q r h)/\(t=false->cw P c n X b Q r h)
   | _=>False)
 | .block id a,Q,r,h=>cw P c n X a (fun e r' h'=>match e with
   | .exit i=>(match Nat.beq i id with
     | true=>Q .normal r' h'
     | false=>Q (.exit i) r' h')
   | e=>Q e r' h') r h
 | .loop a,Q,r,h=>Holds P n X (.loop a) Q r h
 | .exit i,Q,r,h=>Q (.exit i) r h
 | .ret,Q,r,h=>Q .ret r h
 | _,_,_,_=>False
end Go.Abs
/-
 The abstract fR,part C: the BG is right,operation by operation.
-/
namespace Go.Abs
open Go
variable {P:Program}
theorem TP {k:IntKind} {n:Int} (h:HH k n=true):k.has n:=by
 unfold HH at h;split at h
 ·simp at h;constructor<;>simp [IntKind.min,IntKind.max,IntKind.signed,IntKind.bits]<;>omega
 ·simp at h;constructor<;>simp [IntKind.min,IntKind.max,IntKind.signed,IntKind.bits]<;>omega
 ·simp at h;constructor<;>simp [IntKind.min,IntKind.max,IntKind.signed,IntKind.bits]<;>omega
 ·simp at h;constructor<;>simp [IntKind.min,IntKind.max,IntKind.signed,IntKind.bits]<;>omega
 ·simp at h;constructor<;>simp [IntKind.min,IntKind.max,IntKind.signed,IntKind.bits]<;>omega
 cases h
theorem HL (c:Cx) {v:Value} {x:AV} (h:oE v=some x):ae c x v:=by
 unfold oE at h;split at h<;>first|(cases h;simp [ae];done)|skip
 ·split at h
  ·rename_i hk;cases h;rw [ae];exact ⟨rfl,TP hk⟩
  cases h
 ·split at h
  ·rename_i hk;cases h
   rw [ae];refine ⟨_,rfl,rfl,?_⟩;have:=Nat.le_of_ble_eq_true hk;unfold aq;omega
  cases h
 cases h
theorem HM (c:Cx):∀ {vs:List Value} {xs:List AV},sy vs=some xs->au c xs vs
 | [],xs,h=>by cases h;simp [au]
 | v::vs,xs,h=>by
   unfold sy at h;cases hv:oE v with
   | none=>simp [hv] at h
   | some a=>
     cases hr:sy vs with
     | none=>simp [hv,hr] at h
     | some b=>
       simp [hv,hr] at h;subst h;simp only [au];exact ⟨v,vs,rfl,HL c hv,HM c hr⟩
theorem HO {a:Act}:∀ {g:G} {t:Nat} {w:Bool},BI g t w=true->dj a g->a.tmps[t]?=some (.bool w)
 | [],_,_,h,_=>by cases h
 | (t',b,w')::g,t,w,h,hh=>by
   unfold BI at h;split at h
   ·rename_i ht;split at h
    ·rename_i hw;have e1:t'=t:=Nat.eq_of_beq_eq_true ht;have e2:w'=w:=by cases w'<;>cases w<;>simp_all [Ez]
     have:=hh (t',b,w') (by simp);simpa [e1,e2] using this
    exact HO h (fun e he=>hh e (by simp [he]))
   exact HO h (fun e he=>hh e (by simp [he]))
theorem HP {a:Act} {g:G} (hh:dj a g):∀ {g':G},EA g' g=true->dj a g'
 | [],_=>fun e he=>by cases he
 | (t,b,w)::g',h=>by
   unfold EA at h;split at h
   ·rename_i hm;have h1:=HO hm hh;have h2:=HP hh h;intro e he;rcases List.mem_cons.1 he with rfl|he
    ·exact h1
    exact h2 e he
   cases h
theorem MG {a:Act} {t:Nat} {u:Value} (h:a.tmps[t]?=some u):a.eval (.tmp t)=u:=by simp [Act.eval,h]
section
variable {n:Nat} {X:Nat->Prop} {g0:Gh} {r:aC} {h:af} {a:Act} {w:World}
theorem bK.aL (hc:bK n X g0 r h a w) {g:G} (hg:dj a g) {x:Operand} {v:AV} (hx:Abs.aL r g x=some v) :
  ae ⟨g0,live X h,w⟩ v (a.eval x):=by
 unfold Abs.aL at hx;split at hx
 ·rename_i t;split at hx
  ·rename_i g' v' hl;split at hx
   ·rename_i hs;cases hx
    obtain ⟨_,u,hu,hr⟩:=(hc.lr _ _ _ hl).1 (HP hg hs);rw [MG hu];exact hr
   cases hx
  cases hx
 ·exact HL _ hx
 ·cases hx
  simp only [ae,au,Act.eval];exact ⟨#[],rfl,rfl⟩
 cases hx
theorem bK.bQ (hc:bK n X g0 r h a w) {g:G} (hg:dj a g):∀ {xs:List Operand} {vs:List AV},Abs.bQ r g xs=some vs ->
  au ⟨g0,live X h,w⟩ vs (xs.map a.eval)
 | [],vs,h=>by cases h;simp [au]
 | x::xs,vs,h=>by
   unfold Abs.bQ at h;split at h
   ·rename_i v hv;split at h
    ·rename_i P5 lu;cases h
     simp only [au,List.map_cons];exact ⟨_,_,rfl,hc.aL hg hv,hc.bQ hg lu⟩
    cases h
   cases h
end
theorem ep {o:Oper} {a:Act} {w w':World} {u:Value} {next:Act->World->Prop} {Q:Exit->Act->World->Prop}
  (hr:(execOp a.eval o).run P w=.ok (.value u) w') (hn:next (a.put o.dst u) w'):o.wp P a w next Q:=by
 simp only [Oper.wp,hr,Oper.upon];exact hn
theorem EF {o:Oper} {a:Act} {w w':World} {next:Act->World->Prop} {Q:Exit->Act->World->Prop}
  (hr:(execOp a.eval o).run P w=.ok .skip w') (hn:next (a.put o.dst undef) w'):o.wp P a w next Q:=by
 simp only [Oper.wp,hr,Oper.upon];exact hn
section runs
variable {w:World}
theorem cB {t:TypeId} {d:TypeDesc} (h:P.underlying t=some d):(underlying t).run P w=.ok d w:=run_underlying h w
theorem HQ {t:TypeId} {b:Bool} (h:nm P t=some b):(isAgg t).run P w=.ok b w/\∃ d,P.underlying t=some d:=by
 unfold nm at h;cases hu:P.underlying t with
 | none=>simp [hu] at h
 | some d=>
   refine ⟨?_,d,rfl⟩;unfold isAgg;simp only [Sem.run_bind,cB hu,Result.andThen];simp only [hu] at h;cases d<;>simp_all
theorem px {t:TypeId} {i:TypeInfo} (h:P.info? t=some i):(Go.sizeOf t).run P w=.ok (P.cellsOf t) w:=by simp [Go.sizeOf,typeInfo,h,Program.cellsOf]
theorem MH {t:TypeId} {d:TypeDesc} (h:P.underlying t=some d):∃ i,P.info? t=some i:=by
 unfold Program.underlying at h;cases hi:P.info? t with
 | none=>simp [hi] at h
 | some i=>exact ⟨i,rfl⟩
theorem bC.load {c:Cx}:∀ {cs:List AV} {b o:Nat},bC c cs b o ->
  ∃ us:List Value,us.length=cs.length/\(∀ j u,us[j]?=some u->c.w.cell? ⟨b,o+j,none⟩=some u/\u.oneCell'=true)/\au c cs us
 | [],b,o,_=>⟨[],rfl,by simp,by simp [au]⟩
 | x::cs,b,o,h=>by
   simp only [bC] at h;obtain ⟨⟨u,h1,h2,h3,h4⟩,h5⟩:=h;obtain ⟨us,e1,e2,e3⟩:=bC.load h5;refine ⟨u::us,by simp [e1],?_,?_⟩
   ·intro j v hv;cases j with
    | zero=>simp at hv;subst hv;exact ⟨h1,h2⟩
    | succ j=>
      simp at hv;have:=e2 j v hv;rw [show o+(j+1)=o+1+j from by omega];exact this
   simp only [au];exact ⟨u,us,rfl,h4,e3⟩
theorem EG:∀ {n:Nat} {cs l:List AV},takeN n cs=some l->n<=cs.length/\l=cs.take n
 | 0,cs,l,h=>by simp [takeN] at h;subst h;simp
 | n+1,[],l,h=>by simp [takeN] at h
 | n+1,x::cs,l,h=>by
   unfold takeN at h;cases ht:takeN n cs with
   | none=>simp [ht] at h
   | some m=>
     simp [ht] at h;obtain ⟨h1,h2⟩:=EG ht;subst h2;subst h;simp;omega
theorem yj:∀ {n:Nat} {cs l:List AV},iR n cs=some l->n<=cs.length/\l=cs.drop n
 | 0,cs,l,h=>by simp [iR] at h;subst h;simp
 | n+1,[],l,h=>by simp [iR] at h
 | n+1,x::cs,l,h=>by unfold iR at h;obtain ⟨h1,h2⟩:=yj h;subst h2;simp;omega
theorem bC.drop {c:Cx}:∀ (n:Nat) {cs:List AV} {b o:Nat},n<=cs.length->bC c cs b o->bC c (cs.drop n) b (o+n)
 | 0,cs,b,o,_,h=>by simpa using h
 | n+1,[],b,o,hn,h=>by simp at hn
 | n+1,x::cs,b,o,hn,h=>by simp only [bC] at h;have:=bC.drop n (by simpa using hn) h.2;simpa [Nat.add_assoc,Nat.add_comm 1 n] using this
theorem bC.take {c:Cx}:∀ (n:Nat) {cs:List AV} {b o:Nat},bC c cs b o->bC c (cs.take n) b o
 | 0,cs,b,o,_=>by simp [bC]
 | n+1,[],b,o,_=>by simp [bC]
 | n+1,x::cs,b,o,h=>by simp only [bC,List.take_succ_cons] at h ⊢;exact ⟨h.1,bC.take n h.2⟩
theorem au.length {c:Cx}:∀ {xs:List AV} {us:List Value},au c xs us->us.length=xs.length
 | [],us,h=>by simp [au] at h;subst h;rfl
 | x::xs,us,h=>by simp only [au] at h;obtain ⟨u,r,rfl,_,h2⟩:=h;simp [au.length h2]
theorem au.drop {c:Cx}:∀ (n:Nat) {xs:List AV} {us:List Value},au c xs us->au c (xs.drop n) (us.drop n)
 | 0,xs,us,h=>by simpa using h
 | n+1,[],us,h=>by simp [au] at h;subst h;simp [au]
 | n+1,x::xs,us,h=>by simp only [au] at h;obtain ⟨u,r,rfl,_,h2⟩:=h;simpa using au.drop n h2
theorem au.take {c:Cx}:∀ (n:Nat) {xs:List AV} {us:List Value},au c xs us->au c (xs.take n) (us.take n)
 | 0,xs,us,h=>by simp [au]
 | n+1,[],us,h=>by simp [au] at h;subst h;simp [au]
 | n+1,x::xs,us,h=>by simp only [au] at h;obtain ⟨u,r,rfl,h1,h2⟩:=h;simp only [List.take_succ_cons,au];exact ⟨u,_,rfl,h1,au.take n h2⟩
theorem au.append {c:Cx}:∀ {xs ys:List AV} {us vs:List Value},au c xs us->au c ys vs->au c (xs++ys) (us++vs)
 | [],ys,us,vs,h,h'=>by simp [au] at h;subst h;simpa using h'
 | x::xs,ys,us,vs,h,h'=>by simp only [au] at h;obtain ⟨u,r,rfl,h1,h2⟩:=h;simp only [List.cons_append,au];exact ⟨u,_,rfl,h1,au.append h2 h'⟩
theorem MI {t:TypeId} {c:Cx} {cs:List AV} {b o:Nat} {us:List Value} (h2:∀ j u,us[j]?=some u->c.w.cell? ⟨b,o+j,none⟩=some u)
  (oG:∀ (j:Nat) (u:Value),us[j]?=some u->u.oneCell'=true) (h3:au c cs us) {K:AV->Prop} (hk:gv P t cs K) :
  ∃ v u,K v/\ae c v u/\(loadVar t ⟨b,o,none⟩).run P c.w=.ok u c.w:=by
 unfold gv at hk;unfold loadVar;cases uW:nm P t with
 | none=>simp [uW] at hk
 | some bb=>
 obtain ⟨EH,d,hd⟩:=HQ (w:=c.w) uW;obtain ⟨i,hi⟩:=MH hd;simp only [Sem.run_bind,EH,Result.andThen];cases bb with
 | true=>
   simp only [uW] at hk;cases ht:takeN (P.cellsOf t) cs with
   | none=>simp [ht] at hk
   | some l=>
     simp only [ht] at hk;obtain ⟨h1,rfl⟩:=EG ht;have hlen:=h3.length;have hl:(us.take (P.cellsOf t)).length=P.cellsOf t:=by rw [List.length_take];omega
     have bu:=run_loadCells_list (P:=P) (w:=c.w) ⟨b,o,none⟩ (us.take (P.cellsOf t)) (fun j v hv=>by
      have hj:us[j]?=some v:=by
       rw [List.getElem?_take] at hv;split at hv
       ·exact hv
       cases hv
      have:=h2 j v hj;cases j with
      | zero=>simpa [Addr.add] using this
      | succ j=>simpa [Addr.add] using this)
     refine ⟨_,.agg (us.take (P.cellsOf t)).toArray,hk,?_,?_⟩
     ·rw [ae];refine ⟨_,rfl,fun u hu=>?_,by simpa using au.take (P.cellsOf t) h3⟩;obtain ⟨j,hj⟩:=List.mem_iff_getElem?.1 (List.mem_of_mem_take (by simpa using hu));exact oG j u hj
     simp only [if_true,px hi,Result.andThen,Sem.run_bind];rw [hl] at bu;simp [bu]
 | false=>
   simp only [uW] at hk;cases cs with
   | nil=>simp at hk
   | cons x cs=>
     simp only [au] at h3;obtain ⟨u,r,rfl,h4,_⟩:=h3;have:=h2 0 u (by simp);exact ⟨x,u,hk,h4,by simp at this;simp [this]⟩
theorem TQ {t:TypeId} {c:Cx} {cs:List AV} {b o:Nat} (bT:bC c cs b o) {K:AV->Prop} (hk:gv P t cs K) :
  ∃ v u,K v/\ae c v u/\(loadVar t ⟨b,o,none⟩).run P c.w=.ok u c.w:=by
 obtain ⟨us,e1,e2,e3⟩:=bC.load bT;exact MI (fun j u hu=>(e2 j u hu).1) (fun j u hu=>(e2 j u hu).2) e3 hk
theorem TR {c:Cx} {b:Nat} {cs:List AV} (h:oC c b (.vec cs)):∃ p,c.g.pl b=some p/\p.spot=none /\
  ∃ us:List Value,us.length=cs.length/\(∀ (j:Nat) (u:Value),us[j]?=some u->c.w.cell? ⟨p.block,p.off+j,none⟩=some u)/\(∀ (j:Nat) (u:Value),us[j]?=some u->u.oneCell'=true)/\au c cs us:=by
 obtain ⟨p,cc,t,h1,h2,h3,h4,h5,h6⟩:=h;refine ⟨p,h1,h2,(cc.toList.drop p.off).take cs.length,by simp;omega,?_,?_,?_⟩
 ·intro j u hu;rw [List.getElem?_take] at hu;split at hu
  ·simp only [List.getElem?_drop,Array.getElem?_toList] at hu;simp [World.cell?,h4,hu]
  cases hu
 ·intro j u hu;rw [List.getElem?_take] at hu;split at hu
  ·rename_i hj;obtain ⟨u',e,o1,_⟩:=h6 j cs[j] (by simp [hj]);simp only [List.getElem?_drop,Array.getElem?_toList] at hu;rw [e] at hu;cases hu;exact o1
  cases hu
 clear h3
 have key:∀ (xs:List AV) (l:List Value),xs.length<=l.length->(∀ (i:Nat) (x:AV),xs[i]?=some x->∃ u,l[i]?=some u/\ae c x u)->au c xs (l.take xs.length):=by
  intro xs;induction xs with
  | nil=>intro l _ _;simp [au]
  | cons x xs ih=>
    intro l hl hx;cases l with
    | nil=>simp at hl
    | cons u l=>
      simp only [List.length_cons,List.take_succ_cons,au];obtain ⟨u',e,r⟩:=hx 0 x (by simp);simp at e;subst e;exact ⟨u,_,rfl,r,ih l (by simpa using hl) (fun i y hy=>hx (i+1) y (by simpa using hy))⟩
 refine key cs _ (by simp;omega) (fun i x hx=>?_);obtain ⟨u,e,_,r⟩:=h6 i x hx;exact ⟨u,by simp [e],r⟩
theorem BM {c:Cx} {g:G} (he:∀ e∈g,e.2.1=e.2.2) {k:IntKind} {m:Int} {K:AV->Prop} (h:arith g k m K) :
  ∃ v,K v/\ae c v (.int k (k.wrap m)):=by
 have out:∀ {p:Prop},gP g p->p:=by
  intro p hp;clear h;induction g with
  | nil=>exact hp
  | cons e g ih=>exact ih (fun e' h'=>he e' (by simp [h'])) (hp (he e (by simp)))
 unfold arith at h;cases k with
 | i64=>
   obtain ⟨h1,h2⟩:=h;have h1:=out h1;refine ⟨_,h2,?_⟩;rw [ae,IntWalk.i64_in _ h1];exact ⟨rfl,by constructor<;>simp [IntKind.min,IntKind.max,IntKind.signed,IntKind.bits]<;>omega⟩
 | i32=>
   obtain ⟨h1,h2⟩:=h;have h1:=out h1;refine ⟨_,h2,?_⟩;rw [ae,IntWalk.i32_in _ h1];exact ⟨rfl,by constructor<;>simp [IntKind.min,IntKind.max,IntKind.signed,IntKind.bits]<;>omega⟩
 | _=>
   refine ⟨_,h,?_⟩;rw [ae];refine ⟨rfl,?_⟩;constructor<;>simp [IntKind.min,IntKind.max,IntKind.wrap,IntKind.signed,IntKind.bits]<;>(try split)<;>omega
theorem sF {α:Type} [BEq α] [LawfulBEq α] [DecidableEq α] (a b:α):(a == b)=decide (a=b):=by rw [Bool.eq_iff_iff];simp
theorem MJ {t:TypeId} (h:P.underlying t=some .bool) (a b:Bool):(Op.equal t (.bool a) (.bool b)).run P w=.ok (a == b) w:=by show (Op.equalIn (9999+1) t (.bool a) (.bool b)).run P w=_;unfold Op.equalIn;simp only [Sem.run_bind,cB h,Result.andThen];rfl
theorem yk {t e:TypeId} (h:P.underlying t=some (.slice e)) (b:Option Addr) (n c:Nat):(Op.equal t (.slice b n c) (.slice none 0 0)).run P w=.ok b.isNone w:=by show (Op.equalIn (9999+1) t (.slice b n c) (.slice none 0 0)).run P w=_;unfold Op.equalIn;simp only [Sem.run_bind,cB h,Result.andThen];cases b<;>rfl
theorem EI {t e:TypeId} (h:P.underlying t=some (.pointer e)) (b:Option Addr):(Op.equal t (.pointer b) (.pointer none)).run P w=.ok b.isNone w:=by show (Op.equalIn (9999+1) t (.pointer b) (.pointer none)).run P w=_;unfold Op.equalIn;simp only [Sem.run_bind,cB h,Result.andThen];cases b<;>rfl
theorem fp {op:BinOp} {t:TypeId} {x y:Operand} {u v:Value} (h:∀ cs,u≠.agg cs) (h':u≠.nilIface):(eqGuard op t x y u v).run P w=.ok () w:=by unfold eqGuard;cases op<;>simp<;>cases u<;>simp_all
end runs
theorem eP.mono {c c':Cx} (hc:Cx.Le c c'):∀ {es:List (AV × AV)} {aj:List MapEntry},eP c es aj->eP c' es aj
 | [],_,h=>h
 | x::xs,es,h=>by obtain ⟨e,r,rfl,h1,h2,h3⟩:=h;exact ⟨e,r,rfl,ae.mono hc _ _ h1,ae.mono hc _ _ h2,eP.mono hc h3⟩
theorem oC.my {c c':Cx} (hc:Cx.Le c c') {k:Nat} {o:Ob} (h:oC c k o)
  (hb:∀ p,c.g.pl k=some p->(∃ s,c.g.ow p.block=some (k,s))->c'.w.heap[p.block]?=c.w.heap[p.block]?/\c'.g.ow p.block=c.g.ow p.block)
  (hn:c.g.pl k=none->c'.g.pl k=none):oC c' k o:=by
 cases o with
 | vec cs=>
   obtain ⟨p,cc,t,h1,h2,h3,h4,h5,h6⟩:=h;obtain ⟨e1,e2⟩:=hb p h1 ⟨_,h3⟩;exact ⟨p,cc,t,hc.pl _ _ h1,h2,e2.trans h3,e1.trans h4,h5,fun i x hx=>let ⟨u,a,b,r⟩:=h6 i x hx;⟨u,a,b,ae.mono hc _ _ r⟩⟩
 | tok=>
   intro p hp;cases hq:c.g.pl k with
   | none=>rw [hn hq] at hp;cases hp
   | some q=>
     have:=hc.pl _ _ hq;rw [this] at hp;cases hp
     obtain ⟨h1,h2,h3⟩:=h p hq;obtain ⟨e1,e2⟩:=hb p hq ⟨_,h2⟩;exact ⟨h1,e2.trans h2,by rw [e1];exact h3⟩
 | map es=>
   obtain ⟨p,cl,aj,h1,h2,h3,h4,h5,h6⟩:=h;obtain ⟨e1,e2⟩:=hb p h1 ⟨_,h2⟩;exact ⟨p,cl,aj,hc.pl _ _ h1,e2.trans h2,e1.trans h3,eP.mono hc h4,h5,h6⟩
 | uP es bs cl=>
   obtain ⟨p,aj,h1,h2,h3,h4,h5,h6⟩:=h;obtain ⟨e1,e2⟩:=hb p h1 ⟨_,h2⟩;exact ⟨p,aj,hc.pl _ _ h1,e2.trans h2,e1.trans h3,eP.mono hc h4,h5,h6⟩
 | iter m cl seen=>
   obtain ⟨p,pm,sa,h1,h2,h3,h4,h5⟩:=h;obtain ⟨e1,e2⟩:=hb p h1 ⟨_,h2⟩;exact ⟨p,pm,sa,hc.pl _ _ h1,e2.trans h2,e1.trans h3,hc.pl _ _ h4,h5⟩
 | oB s pos=>
   obtain ⟨p,b,h1,h2,h3,h4,h5⟩:=h;obtain ⟨e1,e2⟩:=hb p h1 ⟨_,h2⟩;exact ⟨p,b,hc.pl _ _ h1,e2.trans h2,e1.trans h3,h4,h5⟩
theorem Ai (w:World) (o:Obj) {b:Nat} (h:b<w.heap.size):(w.alloc o).heap[b]?=w.heap[b]?:=by simp only [World.alloc,Array.getElem?_push];rw [if_neg (by omega)]
theorem CW.alloc {X:Nat->Prop} {g:Gh} {h:af} {w:World} (hc:CW X g h w) (o:Obj):CW X g h (w.alloc o)/\Step X g h w g h (w.alloc o):=by
 have hs:Step X g h w g h (w.alloc o):=by
  refine ⟨rfl,⟨rfl,Nat.le_refl _⟩,rfl,by simp,fun _ _ e=>e,fun _ _ _ e _=>e,fun _ _ _ e _=>e,fun _ _ e=>e,fun b hb e=>⟨Ai w o hb,e⟩,?_,?_⟩
  ·intro b k s ho hk cc t f bJ;exact ⟨cc,(Ai w o (hc.own _ _ _ ho)).trans bJ,rfl,fun _ _=>rfl⟩
  intro b k s e _ k' s' e' _;rw [e] at e';cases e';exact Nat.le_refl _
 refine ⟨⟨fun b k s e=>Nat.lt_of_lt_of_le (hc.own b k s e) hs.size,hc.bound,hc.nodup,hc.sep,fun k ob hk=>?_⟩,hs⟩;refine oC.my (Step.le hs) (hc.obj k ob hk) (fun p hp ⟨s,ho⟩=>⟨Ai w o (hc.own _ _ _ ho),rfl⟩) (fun e=>e)
theorem CW.drew {X:Nat->Prop} {g:Gh} {h:af} {w:World} (hc:CW X g h w):CW X g h w.drew/\Step X g h w g h w.drew:=by
 have hs:Step X g h w g h w.drew:=⟨rfl,⟨rfl,Nat.le_succ _⟩,rfl,Nat.le_refl _,fun _ _ e=>e,fun _ _ _ e _=>e,fun _ _ _ e _=>e,fun _ _ e=>e,fun b hb e=>⟨rfl,e⟩,
  fun b k s ho hk cc t f bJ=>⟨cc,bJ,rfl,fun _ _=>rfl⟩,fun b k s e _ k' s' e' _=>by rw [e] at e';cases e';exact Nat.le_refl _⟩
 exact ⟨⟨hc.own,hc.bound,hc.nodup,hc.sep,fun k ob hk=>oC.my (Step.le hs) (hc.obj k ob hk) (fun p hp ho=>⟨rfl,rfl⟩) (fun e=>e)⟩,hs⟩
theorem bC.new {X:Nat->Prop} {g:Gh} {h:af} {w:World} (hc:CW X g h w) {cs:List AV} {us:Array Value} {t:TypeId}
  (hr:au ⟨g,live X h,w⟩ cs us.toList) (h1:∀ u∈us,u.oneCell'=true):bC ⟨g,live X h,w.alloc (.cells us t)⟩ cs w.heap.size 0:=by
 have hs:=(hc.alloc (.cells us t)).2
 have key:∀ (cs:List AV) (l:List Value) (o:Nat),au ⟨g,live X h,w⟩ cs l->(∀ j u,l[j]?=some u->us[o+j]?=some u) ->
   bC ⟨g,live X h,w.alloc (.cells us t)⟩ cs w.heap.size o:=by
  intro cs;induction cs with
  | nil=>intros;simp [bC]
  | cons x cs ih=>
    intro l o hv hl;simp only [au] at hv;obtain ⟨u,r,rfl,h2,h3⟩:=hv;simp only [bC];have hu:us[o]?=some u:=(by simpa using hl 0 u (by simp));refine ⟨⟨u,by simp [hu],h1 u (Array.mem_of_getElem? hu),?_,ae.mono (Step.le hs) _ _ h2⟩,ih r (o+1) h3 (fun j v hv=>?_)⟩
    ·intro k s ho _;exact absurd (hc.own _ _ _ ho) (Nat.lt_irrefl _)
    have:=hl (j+1) v (by simpa using hv);rw [show o+1+j=o+(j+1) from by omega];exact this
 exact key cs us.toList 0 hr (by intro j u hu;simpa using hu)
end Go.Abs
/-
 The abstract fR,part C2: P6 of plain values and of structs of P7;keys.
-/
namespace Go.Abs
open Go
variable {P:Program} {w:World}
theorem HR {k k':IntKind} (h:HI k k'=true):k=k':=by cases k<;>cases k'<;>first|rfl|(simp [HI] at h)
theorem BN {c:Cx} {t:TypeId} {x y:AV} {u v:Value} {b:Bool} (h:qg P t x y=some b) (hu:ae c x u) (hv:ae c y v) (d:Nat) :
  (Op.equalIn (d+1) t u v).run P w=.ok b w/\nm P t=some false/\(∀ fs,P.underlying t≠some (.struct fs))/\(Op.eqGuardIn (d+1) t u v).run P w=.ok false w:=by
 unfold qg at h;split at h
 ·rename_i k1 k a k' b' bc;split at h<;>try contradiction
  rename_i hk;have hk:=HR hk;subst hk;cases h
  rw [ae] at hu hv;obtain ⟨rfl,_⟩:=hu;obtain ⟨rfl,_⟩:=hv;refine ⟨?_,by simp [nm,bc],by simp [bc],?_⟩
  ·simp [Op.equalIn,cB bc,sF]
  simp [Op.eqGuardIn,cB bc]
 ·rename_i a b' bc;cases h
  rw [ae] at hu hv;obtain ⟨b,rfl,rfl,_⟩:=hu;obtain ⟨b',rfl,rfl,_⟩:=hv;refine ⟨?_,by simp [nm,bc],by simp [bc],?_⟩
  ·have e:(b == b')=decide (b.data.toList=b'.data.toList):=by
    rw [Bool.eq_iff_iff];obtain ⟨⟨l⟩⟩:=b;obtain ⟨⟨l'⟩⟩:=b';show ((Array.mk l) == (Array.mk l'))=true↔_;simp
   simp only [Op.equalIn,cB bc,Sem.run_bind,Result.andThen,Sem.run_pure,e]
  simp [Op.eqGuardIn,cB bc]
 ·rename_i a b' bc;cases h
  rw [ae] at hu hv;subst hu;subst hv;refine ⟨?_,by simp [nm,bc],by simp [bc],?_⟩
  ·simp [Op.equalIn,cB bc,sF]
  simp [Op.eqGuardIn,cB bc]
 cases h
theorem au.get {c:Cx}:∀ {xs:List AV} {us:List Value},au c xs us->∀ (i:Nat) (x:AV),xs[i]?=some x->∃ u,us[i]?=some u/\ae c x u
 | [],us,h,i,x,hx=>by simp at hx
 | y::xs,us,h,i,x,hx=>by
   simp only [au] at h;obtain ⟨u,r,rfl,h1,h2⟩:=h;cases i with
   | zero=>simp at hx;subst hx;exact ⟨u,by simp,h1⟩
   | succ i=>exact au.get h2 i x (by simpa using hx)
theorem tV {t:TypeId} {cs:Array Value} {off:Nat} {u:Value} (TS:nm P t=some false) (h:cs[off]?=some u):(part t cs off).run P w=.ok u w:=by obtain ⟨bu,_⟩:=HQ (w:=w) TS;simp [part,bu,h]
theorem MK {c:Cx} {d:Nat} {us vs:Array Value}:∀ {fs:List Field} {i:Nat} {xs ys:List AV} {b:Bool},oF P i fs xs ys=some b->fs.all (fun f=>!(f.name == "_"))=true ->
  (∀ j x,xs[j]?=some x->∃ u,us[i+j]?=some u/\ae c x u)->(∀ j x,ys[j]?=some x->∃ u,vs[i+j]?=some u/\ae c x u) ->
  (Op.eqFields (d+1) us vs fs).run P w=.ok b w
 | [],i,xs,ys,b,h,hn,hx,hy=>by
   cases xs<;>cases ys<;>simp [oF] at h
   subst h;simp [Op.eqFields]
 | f::fs,i,[],ys,b,h,hn,hx,hy=>by simp [oF] at h
 | f::fs,i,x::xs,[],b,h,hn,hx,hy=>by simp [oF] at h
 | f::fs,i,x::xs,y::ys,b,h,hn,hx,hy=>by
   unfold oF at h;split at h<;>try contradiction
   rename_i sG;split at h<;>try contradiction
   rename_i b1 h1;split at h<;>try contradiction
   rename_i b2 h2;cases h
   have sG:=Nat.eq_of_beq_eq_true sG;obtain ⟨u,hu,lV⟩:=hx 0 x (by simp);obtain ⟨v,hv,np⟩:=hy 0 y (by simp);simp only [Nat.add_zero,<- sG] at hu hv;obtain ⟨e1,e2,_,_⟩:=BN (w:=w) h1 lV np d;simp only [List.all_cons,Bool.and_eq_true,Bool.not_eq_true',beq_eq_false_iff_ne] at hn
   have ih:=MK (d:=d) h2 (by simpa using hn.2)
    (fun j z hz=>by have:=hx (j+1) z (by simpa using hz);rwa [show i+1+j=i+(j+1) from by omega])
    (fun j z hz=>by have:=hy (j+1) z (by simpa using hz);rwa [show i+1+j=i+(j+1) from by omega])
   unfold Op.eqFields;cases b1 with
   | false=>simp [hn.1,tV e2 hu,tV e2 hv,e1]
   | true=>simp [hn.1,tV e2 hu,tV e2 hv,e1,ih]
theorem ML {c:Cx} {d:Nat} {e:TypeId} {us vs:Array Value}:∀ {i:Nat} {xs ys:List AV} {b:Bool},rm P e xs ys=some b ->
  (∀ j x,xs[j]?=some x->∃ u,us[i+j]?=some u/\ae c x u)->(∀ j x,ys[j]?=some x->∃ u,vs[i+j]?=some u/\ae c x u) ->
  (Op.eqItems (d+1) e 1 us vs (List.range' i xs.length)).run P w=.ok b w
 | i,[],ys,b,h,hx,hy=>by
   cases ys<;>simp [rm] at h
   subst h;simp [Op.eqItems]
 | i,x::xs,[],b,h,hx,hy=>by simp [rm] at h
 | i,x::xs,y::ys,b,h,hx,hy=>by
   unfold rm at h;split at h<;>try contradiction
   rename_i b1 h1;split at h<;>try contradiction
   rename_i b2 h2;cases h
   obtain ⟨u,hu,lV⟩:=hx 0 x (by simp);obtain ⟨v,hv,np⟩:=hy 0 y (by simp);simp only [Nat.add_zero] at hu hv;obtain ⟨e1,e2,_,_⟩:=BN (w:=w) h1 lV np d
   have ih:=ML (d:=d) h2
    (fun j z hz=>by have:=hx (j+1) z (by simpa using hz);rwa [show i+1+j=i+(j+1) from by omega])
    (fun j z hz=>by have:=hy (j+1) z (by simpa using hz);rwa [show i+1+j=i+(j+1) from by omega])
   rw [List.length_cons,List.range'_succ];unfold Op.eqItems;cases b1 with
   | false=>simp [tV e2 hu,tV e2 hv,e1]
   | true=>simp [tV e2 hu,tV e2 hv,e1,ih]
theorem EJ {c:Cx} {t:TypeId} {x y:AV} {u v:Value} {b:Bool} (h:jD P t x y=some b) (hp:pg P t=true) (hu:ae c x u) (hv:ae c y v) (d:Nat) :
  (Op.equalIn (d+2) t u v).run P w=.ok b w/\((∃ us vs,u=.agg us/\v=.agg vs/\P.eqGuardType P.depth t=false/\nm P t=some true)\/qg P t x y=some b):=by
 unfold jD at h;split at h
 ·rename_i fs bc;split at h<;>try contradiction
  rename_i xs ys;simp only [pg,bc,Bool.and_eq_true,Bool.not_eq_true'] at hp;rw [ae] at hu hv;obtain ⟨us,rfl,_,bd⟩:=hu;obtain ⟨vs,rfl,_,lu⟩:=hv;have hf:P.fieldsOf t=fs:=(by simp [Program.fieldsOf,bc]);refine ⟨?_,.inl ⟨us,vs,rfl,rfl,hp.2,by simp [nm,bc]⟩⟩;rw [run_equalIn_struct w (d+1) t us vs (by rw [hf];exact bc) hp.1.2,hf]
  exact MK h hp.1.1 (fun j z hz=>by obtain ⟨u,h1,h2⟩:=bd.get j z hz;exact ⟨u,by simpa using h1,h2⟩)
   (fun j z hz=>by obtain ⟨u,h1,h2⟩:=lu.get j z hz;exact ⟨u,by simpa using h1,h2⟩)
 ·rename_i n e bc;split at h<;>try contradiction
  rename_i xs ys;split at h<;>try contradiction
  rename_i ie hl eY bw;simp only [pg,bc,Bool.not_eq_true'] at hp;have hl:=Nat.eq_of_beq_eq_true hl;have eY:=Nat.eq_of_beq_eq_true eY;rw [ae] at hu hv;obtain ⟨us,rfl,_,bd⟩:=hu;obtain ⟨vs,rfl,_,lu⟩:=hv;refine ⟨?_,.inl ⟨us,vs,rfl,rfl,hp,by simp [nm,bc]⟩⟩;rw [run_equalIn_array (w:=w) (d+1) us vs bc bw,eY,<- hl,List.range_eq_range']
  exact ML h (fun j z hz=>by obtain ⟨u,h1,h2⟩:=bd.get j z hz;exact ⟨u,by simpa using h1,h2⟩)
   (fun j z hz=>by obtain ⟨u,h1,h2⟩:=lu.get j z hz;exact ⟨u,by simpa using h1,h2⟩)
 ·exact ⟨(BN h hu hv (d+1)).1,.inr h⟩
 cases h
end Go.Abs
/-
 The abstract fR,part C3: maps.
-/
namespace Go.Abs
open Go
variable {P:Program} {w:World}
theorem HS {t:TypeId} {x:AV} {u:Value} {b:Bool} {y:AV} (h:qg P t x y=some b) (e:Bool) (n:Nat):(Instr.checkKey e (n+1) t u).run P w=.ok () w:=by
 unfold qg at h;split at h
 ·rename_i bc;simp [Instr.checkKey,cB bc]
 ·rename_i bc;simp [Instr.checkKey,cB bc]
 ·rename_i bc;simp [Instr.checkKey,cB bc]
 cases h
theorem MM {c:Cx} {n:Nat} {em:Bool} {us:Array Value}:∀ {fs:List Field} {i:Nat} {xs:List AV},oF P i fs xs xs=some true ->
  (∀ j x,xs[j]?=some x->∃ u,us[i+j]?=some u/\ae c x u) ->
  (forIn (m:=Sem) fs PUnit.unit fun f (r:PUnit)=>(if f.name ≠ "_" then do
     Instr.checkKey em (n+1) f.type (<- part f.type us f.offset)
     pure (ForInStep.yield PUnit.unit) else pure (ForInStep.yield PUnit.unit):Sem (ForInStep PUnit))).run P w=.ok PUnit.unit w
 | [],i,xs,h,hx=>by simp
 | f::fs,i,[],h,hx=>by simp [oF] at h
 | f::fs,i,x::xs,h,hx=>by
   unfold oF at h;split at h<;>try contradiction
   rename_i sG;split at h<;>try contradiction
   rename_i b1 h1;split at h<;>try contradiction
   rename_i b2 h2;have sG:=Nat.eq_of_beq_eq_true sG;have hb:b2=true:=by cases b1<;>cases b2<;>simp_all
   subst hb;obtain ⟨u,hu,lV⟩:=hx 0 x (by simp);simp only [Nat.add_zero,<- sG] at hu;obtain ⟨e1,e2,_,_⟩:=BN (w:=w) h1 lV lV 0
   have ih:=MM (n:=n) (em:=em) h2
    (fun j z hz=>by have:=hx (j+1) z (by simpa using hz);rwa [show i+1+j=i+(j+1) from by omega])
   rw [List.forIn_cons];by_cases hn:f.name = "_"
   ·simp [hn];simpa using ih
   simp [hn,tV e2 hu,HS h1];simpa using ih
theorem MN {c:Cx} {n:Nat} {em:Bool} {e:TypeId} {ie:TypeInfo} {us:Array Value} (bw:P.info? e=some ie) (h1:ie.size=1):∀ {xs:List AV} {i:Nat},rm P e xs xs=some true ->
  (∀ j x,xs[j]?=some x->∃ u,us[i+j]?=some u/\ae c x u) ->
  (forIn (m:=Sem) (List.range' i xs.length) PUnit.unit fun i (r:PUnit)=>(do
     Instr.checkKey em (n+1) e (<- part e us (i*(<- sizeOf e)))
     pure (ForInStep.yield PUnit.unit):Sem (ForInStep PUnit))).run P w=.ok PUnit.unit w
 | [],i,h,hx=>by simp
 | x::xs,i,h,hx=>by
   unfold rm at h;split at h<;>try contradiction
   rename_i b1 Aj;split at h<;>try contradiction
   rename_i b2 BO;have hb:b2=true:=by cases b1<;>cases b2<;>simp_all
   subst hb;obtain ⟨u,hu,lV⟩:=hx 0 x (by simp);simp only [Nat.add_zero] at hu;obtain ⟨e1,e2,_,_⟩:=BN (w:=w) Aj lV lV 0
   have ih:=MN (n:=n) (em:=em) bw h1 BO
    (fun j z hz=>by have:=hx (j+1) z (by simpa using hz);rwa [show i+1+j=i+(j+1) from by omega])
   rw [List.length_cons,List.range'_succ,List.forIn_cons];have hs:(sizeOf e).run P w=.ok 1 w:=(by simp [sizeOf,typeInfo,bw,h1]);simp [hs,tV e2 hu,HS Aj];simpa using ih
theorem HT {c:Cx} {t:TypeId} {k:AV} {u:Value} (hk:sz P t k) (hu:ae c k u) (em:Bool) (n:Nat):(Instr.checkKey em (n+2) t u).run P w=.ok () w:=by
 obtain ⟨hp,he⟩:=hk;unfold jD at he;split at he
 ·rename_i fs bc;split at he<;>try contradiction
  rename_i xs ys _ _;rw [ae] at hu;obtain ⟨us,rfl,_,bd⟩:=hu;rw [Instr.checkKey];simp only [Sem.run_bind,cB bc,Result.andThen_ok];rw [<- Array.forIn_toList];have:=MM (c:=c) (P:=P) (w:=w) (n:=n) (em:=em) (us:=us) he (fun j z hz=>by obtain ⟨u,h1,h2⟩:=bd.get j z hz;exact ⟨u,by simpa using h1,h2⟩);simp at this ⊢;rw [this];rfl
 ·rename_i m e bc;split at he<;>try contradiction
  rename_i xs ys _ _;split at he<;>try contradiction
  rename_i ie hl eY bw;have hl:=Nat.eq_of_beq_eq_true hl;have eY:=Nat.eq_of_beq_eq_true eY;rw [ae] at hu;obtain ⟨us,rfl,_,bd⟩:=hu;rw [Instr.checkKey];simp only [Sem.run_bind,cB bc,Result.andThen_ok];simp only [Std.Legacy.Range.forIn_eq_forIn_range',Std.Legacy.Range.size,Nat.sub_zero,Nat.add_one_sub_one,Nat.div_one];have:=MN (c:=c) (P:=P) (w:=w) (n:=n) (em:=em) (us:=us) bw (by simpa [Program.cellsOf,bw] using eY) (i:=0) he (fun j z hz=>by obtain ⟨u,h1,h2⟩:=bd.get j z hz;exact ⟨u,by simpa using h1,h2⟩);rw [<- hl];simp at this ⊢;rw [this];rfl
 ·exact HS he em (n+1)
 cases he
theorem HU {c:Cx} {t:TypeId} {x y:AV} {u v:Value} (h:qg P t x y=some true) (hu:ae c x u) (hv:ae c y v) (n:Nat):Instr.sameBits n v u=true:=by
 unfold qg at h;split at h
 ·split at h<;>try contradiction
  rename_i hk;have hk:=HR hk;subst hk;simp at h;subst h;rw [ae] at hu hv;obtain ⟨rfl,_⟩:=hu;obtain ⟨rfl,_⟩:=hv;unfold Instr.sameBits;simp
 ·simp at h;subst h;rw [ae] at hu hv;obtain ⟨b,rfl,rfl,_⟩:=hu;obtain ⟨b',rfl,hb,_⟩:=hv;have:b'=b:=by obtain ⟨⟨l⟩⟩:=b;obtain ⟨⟨l'⟩⟩:=b';simp at hb;subst hb;rfl
  subst this;unfold Instr.sameBits;rw [beq_toListBytes];simp
 ·simp at h;subst h;rw [ae] at hu hv;subst hu;subst hv;unfold Instr.sameBits;simp
 cases h
theorem MO {c:Cx} {n:Nat}:∀ {fs:List Field} {i:Nat} {xs ys:List AV} {us vs:List Value},oF P i fs xs ys=some true->au c xs us->au c ys vs ->
  us.length=vs.length/\((vs.zip us).all fun (x,y)=>Instr.sameBits n x y)=true
 | [],i,xs,ys,us,vs,h,hx,hy=>by
   cases xs<;>cases ys<;>simp [oF] at h
   simp [au] at hx hy;subst hx;subst hy;simp
 | f::fs,i,[],ys,us,vs,h,hx,hy=>by simp [oF] at h
 | f::fs,i,x::xs,[],us,vs,h,hx,hy=>by simp [oF] at h
 | f::fs,i,x::xs,y::ys,us,vs,h,hx,hy=>by
   unfold oF at h;split at h<;>try contradiction
   split at h<;>try contradiction
   rename_i b1 h1;split at h<;>try contradiction
   rename_i b2 h2;have hb:b1=true/\b2=true:=by cases b1<;>cases b2<;>simp_all
   obtain ⟨rfl,rfl⟩:=hb;simp only [au] at hx hy;obtain ⟨u,r,rfl,a1,a2⟩:=hx;obtain ⟨v,s,rfl,b1,b2⟩:=hy;obtain ⟨e1,e2⟩:=MO (n:=n) h2 a2 b2;simp only [List.length_cons,List.zip_cons_cons,List.all_cons,HU h1 a1 b1,e2,Bool.and_self,and_true];omega
theorem MP {c:Cx} {n:Nat} {e:TypeId}:∀ {xs ys:List AV} {us vs:List Value},rm P e xs ys=some true->au c xs us->au c ys vs ->
  us.length=vs.length/\((vs.zip us).all fun (x,y)=>Instr.sameBits n x y)=true
 | [],ys,us,vs,h,hx,hy=>by
   cases ys<;>simp [rm] at h
   simp [au] at hx hy;subst hx;subst hy;simp
 | x::xs,[],us,vs,h,hx,hy=>by simp [rm] at h
 | x::xs,y::ys,us,vs,h,hx,hy=>by
   unfold rm at h;split at h<;>try contradiction
   rename_i b1 h1;split at h<;>try contradiction
   rename_i b2 h2;have hb:b1=true/\b2=true:=by cases b1<;>cases b2<;>simp_all
   obtain ⟨rfl,rfl⟩:=hb;simp only [au] at hx hy;obtain ⟨u,r,rfl,a1,a2⟩:=hx;obtain ⟨v,s,rfl,b1,b2⟩:=hy;obtain ⟨e1,e2⟩:=MP (n:=n) h2 a2 b2;simp only [List.length_cons,List.zip_cons_cons,List.all_cons,HU h1 a1 b1,e2,Bool.and_self,and_true];omega
theorem TU {c:Cx} {t:TypeId} {x y:AV} {u v:Value} (h:jD P t x y=some true) (hu:ae c x u) (hv:ae c y v) (n:Nat):Instr.sameBits (n+1) v u=true:=by
 unfold jD at h;split at h
 ·split at h<;>try contradiction
  rw [ae] at hu hv;obtain ⟨us,rfl,_,bd⟩:=hu;obtain ⟨vs,rfl,_,lu⟩:=hv;obtain ⟨e1,e2⟩:=MO (n:=n) h bd lu;simp at e1;unfold Instr.sameBits;simp only [Bool.and_eq_true,beq_iff_eq];exact ⟨e1.symm,e2⟩
 ·split at h<;>try contradiction
  split at h<;>try contradiction
  rw [ae] at hu hv;obtain ⟨us,rfl,_,bd⟩:=hu;obtain ⟨vs,rfl,_,lu⟩:=hv;obtain ⟨e1,e2⟩:=MP (n:=n) h bd lu;simp at e1;unfold Instr.sameBits;simp only [Bool.and_eq_true,beq_iff_eq];exact ⟨e1.symm,e2⟩
 ·exact HU h hu hv _
 cases h
theorem MQ {c:Cx} {t:TypeId} {d:TypeDesc} {x y:AV} {u v:Value} {b q:Bool} (ht:P.underlying t=some d) (h:jD P t x y=some b) (hu:ae c x u) (hv:ae c y v) (hq:Instr.sameNow d u v=some q):q=b:=by
 unfold jD at h;rw [ht] at h;split at h
 ·rename_i fs bc;cases bc
  split at h<;>contradiction
 ·rename_i n e bc;cases bc
  split at h<;>contradiction
 ·unfold qg at h;rw [ht] at h;split at h
  ·rename_i bc;cases bc
   split at h<;>try contradiction
   rename_i hk;have hk:=HR hk;subst hk;cases h
   rw [ae] at hu hv;obtain ⟨rfl,_⟩:=hu;obtain ⟨rfl,_⟩:=hv;simp [Instr.sameNow] at hq;rw [<- hq,sF]
  ·rename_i bc;cases bc
   cases h
   rw [ae] at hu hv;obtain ⟨b,rfl,rfl,_⟩:=hu;obtain ⟨b',rfl,rfl,_⟩:=hv;simp only [Instr.sameNow] at hq;cases hq
   rw [Bool.eq_iff_iff];obtain ⟨⟨l⟩⟩:=b;obtain ⟨⟨l'⟩⟩:=b';show ((Array.mk l) == (Array.mk l'))=true↔_;simp
  ·rename_i bc;cases bc
   cases h
   rw [ae] at hu hv;subst hu;subst hv;simp only [Instr.sameNow] at hq;cases hq
   rw [sF]
  cases h
 cases h
theorem MR {c:Cx} {t:TypeId} {d:TypeDesc} {k:AV} {u:Value} (ht:P.underlying t=some d) (hp:pg P t=true) (hu:ae c k u) :
  ∀ {es:List (AV × AV)} {aj:List MapEntry} {r:Option AV} (i:Nat),eP c es aj->rn P t k es=some r ->
  ∃ res,(Instr.findAsking t u aj i).run P w=.ok res w/\(∀ q,Instr.findNow d u aj i=some q->q=res) /\
   (match r with
    | none=>res=none/\∀ v',pk P t k v' es=es++[(k,v')]
    | some v=>∃ j e,res=some (i+j,e.val)/\aj[j]?=some e/\ae c v e.val/\Instr.sameBits 10000 e.key u=true /\
       ∀ (v':AV) (uv:Value),ae c v' uv->eP c (pk P t k v' es) (aj.modify j fun e=>{ e with key:=u,val:=uv }))
 | [],aj,r,i,he,hm=>by simp [eP] at he;subst he;simp [rn] at hm;subst hm;exact ⟨none,by simp [Instr.findAsking],by simp [Instr.findNow],rfl,fun v'=>rfl⟩
 | (x,v)::es,aj,r,i,he,hm=>by
   obtain ⟨e,rest,rfl,h1,h2,h3⟩:=he;simp only at h1 h2;unfold rn at hm;split at hm
   ·rename_i heq;cases hm
    obtain ⟨bu,_⟩:=EJ (w:=w) heq hp hu h1 9998;refine ⟨some (i,e.val),?_,?_,0,e,rfl,by simp,h2,TU heq hu h1 9999,?_⟩
    ·simp [Instr.findAsking,Op.equal,Op.maxDepth,bu]
    ·intro q hq;unfold Instr.findNow at hq;split at hq
     ·cases hq;rfl
     ·rename_i hs;have:=MQ ht heq hu h1 hs;cases this
     cases hq
    intro v' uv uX;simp only [pk,heq];exact ⟨{ e with key:=u,val:=uv },rest,rfl,hu,uX,h3⟩
   ·rename_i heq;obtain ⟨bu,_⟩:=EJ (w:=w) heq hp hu h1 9998;obtain ⟨res,r1,r2,r3⟩:=MR ht hp hu (i+1) h3 hm;refine ⟨res,?_,?_,?_⟩
    ·simp [Instr.findAsking,Op.equal,Op.maxDepth,bu,r1]
    ·intro q hq;unfold Instr.findNow at hq;split at hq
     ·rename_i hs;have:=MQ ht heq hu h1 hs;cases this
     ·exact r2 q hq
     cases hq
    cases r with
    | none=>
      refine ⟨r3.1,fun v'=>?_⟩;simp only [pk,heq,r3.2 v',List.cons_append]
    | some v0=>
      obtain ⟨j,e',q1,q2,q3,q4,q5⟩:=r3;refine ⟨j+1,e',by rw [q1];congr 2;omega,by simpa using q2,q3,q4,fun v' uv uX=>?_⟩;simp only [pk,heq];exact ⟨e,_,by simp [List.modify],h1,h2,q5 v' uv uX⟩
   cases hm
theorem EK {c:Cx} {t:TypeId} {k:AV} {u:Value} (hk:sz P t k) (hu:ae c k u) {es:List (AV × AV)} {aj:Array MapEntry} {r:Option AV} (he:eP c es aj.toList) (hm:rn P t k es=some r) :
  ∃ res,(Instr.findKey t u aj.toList).run P w=.ok res w /\
   (match r with
    | none=>res=none/\∀ v',pk P t k v' es=es++[(k,v')]
    | some v=>∃ j e,res=some (j,e.val)/\aj[j]?=some e/\ae c v e.val/\Instr.sameBits 10000 e.key u=true /\
       ∀ (v':AV) (uv:Value),ae c v' uv->eP c (pk P t k v' es) (aj.modify j fun e=>{ e with key:=u,val:=uv }).toList):=by
 have bc:∃ d,P.underlying t=some d:=by
  have:=hk.2;unfold jD at this;cases hd:P.underlying t with
  | none=>simp [hd] at this
  | some d=>exact ⟨d,rfl⟩
 obtain ⟨d,hd⟩:=bc;obtain ⟨res,r1,r2,r3⟩:=MR (w:=w) hd hk.1 hu 0 he hm;refine ⟨res,?_,?_⟩
 ·unfold Instr.findKey;simp only [Sem.run_bind,cB hd,Result.andThen_ok];split
  ·rename_i q hq;rw [r2 q hq];simp
  exact r1
 cases r with
 | none=>exact r3
 | some v=>
   obtain ⟨j,e,q1,q2,q3,q4,q5⟩:=r3;refine ⟨j,e,by simpa using q1,by simpa using q2,q3,q4,fun v' uv uX=>?_⟩;rw [Array.toList_modify];exact q5 v' uv uX
theorem TV {a:Int} (h0:0<=a) (h1:a<4294967296):IntKind.u64.wrap ((BitVec.ofInt 64 a &&& BitVec.ofInt 64 4294967295).toNat:Int)=a:=by
 obtain ⟨m,rfl⟩:=Int.eq_ofNat_of_zero_le h0;have e1:(BitVec.ofInt 64 (m:Int)).toNat=m:=by rw [BitVec.ofInt_natCast,BitVec.toNat_ofNat];exact Nat.mod_eq_of_lt (by omega)
 have e2:(BitVec.ofInt 64 4294967295).toNat=4294967295:=(by decide);rw [BitVec.toNat_and,e1,e2,show 4294967295=2 ^ 32 - 1 from rfl,Nat.and_two_pow_sub_one_eq_mod,Nat.mod_eq_of_lt (by omega)];simp [IntKind.wrap,IntKind.signed,IntKind.bits];omega
set_option maxHeartbeats 1000000 in
theorem TW {c:Cx} {g:G} (he:∀ e∈g,e.2.1=e.2.2) {t:TypeId} {op:BinOp} {x y:AV} {u v:Value} {K:AV->Prop} {ox oy:Operand}
  (h:tO P g t op x y K) (hu:ae c x u) (hv:ae c y v) :
  ∃ z s,K z/\ae c z s/\(do eqGuard op t ox oy u v;binOp op t u v:Sem Value).run P c.w=.ok s c.w:=by
 have out:∀ {p:Prop},gP g p->p:=by
  intro p hp;clear h;induction g with
  | nil=>exact hp
  | cons e g ih=>exact ih (fun e' h'=>he e' (by simp [h'])) (hp (he e (by simp)))
 unfold tO at h;split at h
 case h_1=> -- add
  rw [pj] at h;obtain ⟨rfl,h⟩:=h;rw [ae] at hu hv;obtain ⟨rfl,_⟩:=hu;obtain ⟨rfl,_⟩:=hv;obtain ⟨z,h1,h2⟩:=BM (c:=c) he h;exact ⟨z,_,h1,h2,by simp [fp,binOp,Op.intArith]⟩
 case h_2=>
  rw [pj] at h;obtain ⟨rfl,h⟩:=h;rw [ae] at hu hv;obtain ⟨rfl,_⟩:=hu;obtain ⟨rfl,_⟩:=hv;obtain ⟨z,h1,h2⟩:=BM (c:=c) he h;exact ⟨z,_,h1,h2,by simp [fp,binOp,Op.intArith]⟩
 case h_3=>
  rw [pj] at h;obtain ⟨rfl,h⟩:=h;rw [ae] at hu hv;obtain ⟨rfl,_⟩:=hu;obtain ⟨rfl,_⟩:=hv;obtain ⟨z,h1,h2⟩:=BM (c:=c) he h;exact ⟨z,_,h1,h2,by simp [fp,binOp,Op.intArith]⟩
 case h_4=>
  rw [pj] at h;obtain ⟨rfl,hb,h⟩:=h;rw [ae] at hu hv;obtain ⟨rfl,_⟩:=hu;obtain ⟨rfl,_⟩:=hv;obtain ⟨z,h1,h2⟩:=BM (c:=c) he h;exact ⟨z,_,h1,h2,by simp [fp,binOp,Op.intDiv,out hb]⟩
 case h_5=>
  rw [pj] at h;obtain ⟨rfl,hb,h⟩:=h;rw [ae] at hu hv;obtain ⟨rfl,_⟩:=hu;obtain ⟨rfl,_⟩:=hv;refine ⟨_,_,h,by rw [ae];exact ⟨rfl,(out hb).2⟩,by simp [fp,binOp,Op.intDiv,(out hb).1]⟩
 case h_6=>
  rw [pj] at h;obtain ⟨rfl,h⟩:=h;rw [ae] at hu hv;obtain ⟨rfl,_⟩:=hu;obtain ⟨rfl,_⟩:=hv;exact ⟨_,_,h,by rw [ae],by simp [fp,binOp,Op.intCmp]⟩
 case h_7=>
  rw [pj] at h;obtain ⟨rfl,h⟩:=h;rw [ae] at hu hv;obtain ⟨rfl,_⟩:=hu;obtain ⟨rfl,_⟩:=hv;exact ⟨_,_,h,by rw [ae],by simp [fp,binOp,Op.intCmp]⟩
 case h_8=>
  rw [pj] at h;obtain ⟨rfl,h⟩:=h;rw [ae] at hu hv;obtain ⟨rfl,_⟩:=hu;obtain ⟨rfl,_⟩:=hv;exact ⟨_,_,h,by rw [ae],by simp [fp,binOp,Op.intCmp]⟩
 case h_9=>
  rw [pj] at h;obtain ⟨rfl,h⟩:=h;rw [ae] at hu hv;obtain ⟨rfl,_⟩:=hu;obtain ⟨rfl,_⟩:=hv;exact ⟨_,_,h,by rw [ae],by simp [fp,binOp,Op.intCmp]⟩
 case h_10=>
  rw [pj] at h;obtain ⟨rfl,h⟩:=h;rw [ae] at hu hv;obtain ⟨rfl,_⟩:=hu;obtain ⟨rfl,_⟩:=hv;exact ⟨_,_,h,by rw [ae],by simp [fp,binOp,Op.intCmp,sF]⟩
 case h_11=>
  rw [pj] at h;obtain ⟨rfl,h⟩:=h;rw [ae] at hu hv;obtain ⟨rfl,_⟩:=hu;obtain ⟨rfl,_⟩:=hv;exact ⟨_,_,h,by rw [ae],by simp [fp,binOp,Op.intCmp,bne,sF]⟩
 case h_12=>
  split at h
  ·rename_i bc;rw [ae] at hu hv;subst hu;subst hv;refine ⟨_,_,h,by rw [ae],?_⟩;simp [fp,binOp,MJ bc,sF]
  exact h.elim
 case h_13=>
  split at h
  ·rename_i bc;rw [ae] at hu hv;subst hu;subst hv;refine ⟨_,_,h,by rw [ae],?_⟩;simp [fp,binOp,MJ bc,sF]
  exact h.elim
 case h_14=>
  rw [ae] at hu hv;obtain ⟨b,rfl,rfl,_⟩:=hu;obtain ⟨b',rfl,rfl,_⟩:=hv;refine ⟨_,_,h,by rw [ae],?_⟩;simp [fp,binOp,Op.stringOp,sF,Go.ByteArray.toList_eq]
 case h_15=>
  rw [ae] at hu hv;obtain ⟨b,rfl,rfl,_⟩:=hu;obtain ⟨b',rfl,rfl,_⟩:=hv;refine ⟨_,_,h,by rw [ae],?_⟩;simp [fp,binOp,Op.stringOp,sF,Go.ByteArray.toList_eq]
 case h_16=>
  rw [ae] at hu hv;obtain ⟨b,rfl,rfl,_⟩:=hu;obtain ⟨b',rfl,rfl,_⟩:=hv;refine ⟨_,_,h,by rw [ae],?_⟩;simp [fp,binOp,Op.stringOp,Go.ByteArray.toList_eq]
 case h_17=>
  rw [ae] at hu hv;obtain ⟨b,rfl,rfl,l1⟩:=hu;obtain ⟨b',rfl,rfl,l2⟩:=hv;have l3:=out h.1;refine ⟨_,.string (b++b'),h.2,?_,?_⟩
  ·rw [ae];exact ⟨_,rfl,by simp [ByteArray.data_append],l3⟩
  have hle:¬ (((b.size+b'.size:Nat):Int) > IntKind.i64.max):=by simp only [List.length_append,Array.length_toList] at l3;have e1:b.data.size=b.size:=rfl;have e2:b'.data.size=b'.size:=rfl;rw [e1,e2] at l3;unfold aq at l3;simp [IntKind.max,IntKind.signed,IntKind.bits];omega
  simp only [Sem.run_bind,fp (u:=.string b) (by simp) (by simp),Result.andThen,binOp,Op.stringOp];rw [if_neg hle];rfl
 case h_18=>
  split at h
  ·rename_i b heq;obtain ⟨hp,hK⟩:=h;obtain ⟨h1,h2⟩:=EJ (w:=c.w) heq hp hu hv 9998;rcases h2 with ⟨us,vs,rfl,rfl,hm,_⟩|h2
   ·refine ⟨_,.bool b,hK,by rw [ae],?_⟩;simp only [Sem.run_bind,run_eqGuard_agg c.w .eql t ox oy us vs hm,Result.andThen_ok,run_eql_struct];rw [show (10000:Nat)=9998+2 from rfl,h1];rfl
   unfold qg at h2;split at h2<;>first|contradiction|(rename_i hx _;cases hx)
  exact h.elim
 case h_19=>
  split at h
  ·rename_i b heq;obtain ⟨hp,hK⟩:=h;obtain ⟨h1,h2⟩:=EJ (w:=c.w) heq hp hu hv 9998;rcases h2 with ⟨us,vs,rfl,rfl,hm,_⟩|h2
   ·refine ⟨_,.bool (!b),hK,by rw [ae],?_⟩;simp only [Sem.run_bind,run_eqGuard_agg c.w .neq t ox oy us vs hm,Result.andThen_ok,run_neq_struct];rw [show (10000:Nat)=9998+2 from rfl,h1];rfl
   unfold qg at h2;split at h2<;>first|contradiction|(rename_i hx _;cases hx)
  exact h.elim
 case h_20=>
  split at h
  ·rename_i bc;rw [ae] at hu hv;subst hu;subst hv;refine ⟨_,_,h,by rw [ae],?_⟩;simp [fp,binOp,yk bc]
  exact h.elim
 case h_21=>
  split at h
  ·rename_i bc;rw [ae] at hu hv;subst hu;subst hv;refine ⟨_,_,h,by rw [ae],?_⟩;simp [fp,binOp,yk bc]
  exact h.elim
 case h_22=>
  split at h
  ·rename_i bc;simp only [ae] at hu hv;subst hv;obtain ⟨a,cap,rfl,_⟩:=hu;refine ⟨_,_,h,by rw [ae],?_⟩;simp [fp,binOp,yk bc]
  exact h.elim
 case h_23=>
  split at h
  ·rename_i bc;simp only [ae] at hu hv;subst hv;obtain ⟨a,cap,rfl,_⟩:=hu;refine ⟨_,_,h,by rw [ae],?_⟩;simp [fp,binOp,yk bc]
  exact h.elim
 case h_24=>
  split at h
  ·rename_i bc;have aM:=out h.1;simp only [ae] at hu hv;subst hv;obtain ⟨base,cap,rfl,h1,h2,h3,h4,h5,_⟩:=hu;have hb:base≠none:=fun e=>aM (List.eq_nil_of_length_eq_zero (by have:=h4 e;omega));obtain ⟨a,rfl⟩:=Option.ne_none_iff_exists'.1 hb;refine ⟨_,_,h.2,by rw [ae],?_⟩;simp [fp,binOp,yk bc]
  exact h.elim
 case h_25=>
  split at h
  ·rename_i bc;have aM:=out h.1;simp only [ae] at hu hv;subst hv;obtain ⟨base,cap,rfl,h1,h2,h3,h4,h5,_⟩:=hu;have hb:base≠none:=fun e=>aM (List.eq_nil_of_length_eq_zero (by have:=h4 e;omega));obtain ⟨a,rfl⟩:=Option.ne_none_iff_exists'.1 hb;refine ⟨_,_,h.2,by rw [ae],?_⟩;simp [fp,binOp,yk bc]
  exact h.elim
 case h_26=>
  rw [ae] at hu hv;obtain ⟨b,rfl,rfl,_⟩:=hu;obtain ⟨b',rfl,rfl,_⟩:=hv;refine ⟨_,_,h,by rw [ae],?_⟩;simp [fp,binOp,Op.stringOp,sF,Go.ByteArray.toList_eq]
 case h_27=>
  split at h
  ·rename_i bc;simp only [ae] at hu hv;subst hv;obtain ⟨p,cap,_,_,_,rfl,_⟩:=hu;refine ⟨_,_,h,by rw [ae],?_⟩;simp [fp,binOp,yk bc]
  exact h.elim
 case h_28=>
  split at h
  ·rename_i bc;simp only [ae] at hu hv;subst hv;obtain ⟨b,o,rfl,_⟩:=hu;refine ⟨_,_,h,by rw [ae],?_⟩;simp [fp,binOp,EI bc]
  exact h.elim
 case h_29=>
  split at h
  ·rename_i bc;simp only [ae] at hu hv;subst hv;obtain ⟨b,o,rfl,_⟩:=hu;refine ⟨_,_,h,by rw [ae],?_⟩;simp [fp,binOp,EI bc]
  exact h.elim
 case h_30=>
  split at h
  ·rename_i bc;simp only [ae] at hu hv;subst hv hu;refine ⟨_,_,h,by rw [ae],?_⟩;simp [fp,binOp,EI bc]
  exact h.elim
 case h_31=>
  split at h
  ·rename_i bc;simp only [ae] at hu hv;subst hv hu;refine ⟨_,_,h,by rw [ae],?_⟩;simp [fp,binOp,EI bc]
  exact h.elim
 case h_32=>
  rw [ae] at hu hv;obtain ⟨rfl,_⟩:=hu;obtain ⟨rfl,_⟩:=hv;obtain ⟨⟨⟨rfl,rfl⟩,h1,h2⟩,hK⟩:=(show _/\_ from ⟨out h.1,h.2⟩);refine ⟨_,.int .u64 _,hK,by rw [ae];exact ⟨rfl,by simp [IntKind.has,IntKind.min,IntKind.max,IntKind.signed,IntKind.bits];omega⟩,?_⟩;have TX:∀ a:Int,Int.fdiv a ((2:Int) ^ 1)=a / 2:=fun a=>by rw [Int.fdiv_eq_ediv_of_nonneg _ (by decide)];rfl
  simp only [Sem.run_bind,fp (u:=.int .u64 _) (by simp) (by simp),Result.andThen_ok,binOp,Op.shift];rw [if_neg (by decide)];exact congrArg (fun z=>Result.ok (Value.int .u64 z) c.w) (TX _)
 case h_33=>
  rw [ae] at hu hv;obtain ⟨rfl,_⟩:=hu;obtain ⟨rfl,_⟩:=hv;obtain ⟨⟨⟨rfl,rfl⟩,⟨h1,h2⟩,rfl⟩,hK⟩:=(show _/\_ from ⟨out h.1,h.2⟩);refine ⟨_,.int .u64 0,hK,by rw [ae];exact ⟨rfl,by simp [IntKind.has,IntKind.min,IntKind.max,IntKind.signed,IntKind.bits]⟩,?_⟩;have:=Int.fdiv_eq_zero_of_lt h1 (show _<(2:Int) ^ 32 from h2);simp only [Sem.run_bind,fp (u:=.int .u64 _) (by simp) (by simp),Result.andThen_ok,binOp,Op.shift];rw [if_neg (by omega)];exact congrArg (fun z=>Result.ok (Value.int .u64 z) c.w) this
 case h_34=>
  rw [ae] at hu hv;obtain ⟨rfl,hk⟩:=hu;obtain ⟨rfl,_⟩:=hv;obtain ⟨⟨⟨rfl,rfl⟩,⟨h1,h2⟩,rfl⟩,hK⟩:=(show _/\_ from ⟨out h.1,h.2⟩);refine ⟨_,_,hK,by rw [ae];exact ⟨rfl,hk⟩,?_⟩;have:=TV h1 h2;simp only [Sem.run_bind,fp (u:=.int .u64 _) (by simp) (by simp),Result.andThen_ok,binOp,Op.intBits];simp only [ne_eq,not_true_eq_false,if_false,Sem.run_pure];exact congrArg (fun z=>Result.ok (Value.int .u64 z) c.w) this
 case h_35=>exact h.elim
theorem MS {c:Cx} {t:TypeId} {z:AV} (h:zeroV P t=some z):∃ v,(zeroValue t).run P w=.ok v w/\ae c z v:=by
 unfold zeroV at h;cases hi:P.info? t with
 | none=>simp [hi] at h
 | some i=>
   simp only [hi] at h;split at h
   ·rename_i us hz;split at h<;>try contradiction
    rename_i l hl;cases h
    refine ⟨.agg us,by simp [zeroValue,typeInfo,hi,hz],?_⟩;rw [ae];refine ⟨us,rfl,?_,HM c hl⟩
    have one:∀ (vs:List Value) (xs:List AV),sy vs=some xs->∀ u∈vs,u.oneCell'=true:=by
     intro vs;induction vs with
     | nil=>intro xs _ u hu;cases hu
     | cons v vs ih=>
       intro xs hx u hu;unfold sy at hx;split at hx<;>try contradiction
       rename_i a hv;split at hx<;>try contradiction
       rename_i b hr;rcases List.mem_cons.1 hu with rfl|hu
       ·unfold oE at hv;split at hv<;>first|rfl|contradiction
       exact ih _ hr u hu
    intro u hu;exact one us.toList l hl u (by simpa using hu)
   ·rename_i v aM hz;exact ⟨v,by simp [zeroValue,typeInfo,hi,hz],HL c h⟩
   cases h
theorem HV {c:Cx} {ok f:Bool} {v:AV} {s:Value} (h:ae c v s):ae c (sA ok v f) (if ok then .tuple #[s,.bool f] else s):=by
 cases ok with
 | true=>simp only [sA,ae,if_true];exact ⟨_,rfl,by simp only [au];exact ⟨s,[.bool f],rfl,h,.bool f,[],rfl,by rw [ae],rfl⟩⟩
 | false=>simpa [sA] using h
theorem TY {c:Cx} {t kt et:TypeId} {k z v:AV} {u:Value} {f ok:Bool} {r:Nat} {es:List (AV × AV)} {aj:Array MapEntry} {cl:Nat} (ht:P.underlying t=some (.map kt et)) (hk:sz P kt k) (hu:ae c k u)
  (hz:zeroV P et=some z) (hb:c.w.heap[r]?=some (.map aj cl)) (he:eP c es aj.toList) (hm:yd P kt k es z=some (v,f)) :
  ∃ s,(Instr.lookup t (.map (some r)) u ok).run P c.w=.ok s c.w/\ae c (sA ok v f) s:=by
 obtain ⟨zv,eC,cx⟩:=MS (c:=c) (w:=c.w) hz;have ga:=HT (w:=c.w) hk hu aj.isEmpty 9998;unfold yd at hm;split at hm
 ·rename_i v' hg;cases hm
  obtain ⟨res,h1,j,e,rfl,h3,h4,_⟩:=EK (w:=c.w) hk hu he hg;refine ⟨_,?_,HV h4⟩;simp only [Instr.lookup,Sem.run_bind,cB ht,Result.andThen_ok,getObj];simp [Sem.run,hb,ga,h1]
 ·rename_i hg;cases hm
  obtain ⟨res,h1,rfl,_⟩:=EK (w:=c.w) hk hu he hg;refine ⟨_,?_,HV cx⟩;simp only [Instr.lookup,Sem.run_bind,cB ht,Result.andThen_ok,getObj];simp [Sem.run,hb,ga,h1,eC]
 cases hm
theorem TZ {c:Cx} {t kt et:TypeId} {k z:AV} {u:Value} {ok:Bool} (ht:P.underlying t=some (.map kt et)) (hk:sz P kt k) (hu:ae c k u)
  (hz:zeroV P et=some z):∃ s,(Instr.lookup t (.map none) u ok).run P c.w=.ok s c.w/\ae c (sA ok z false) s:=by
 obtain ⟨zv,eC,cx⟩:=MS (c:=c) (w:=c.w) hz;have ga:=HT (w:=c.w) hk hu true 9998;obtain ⟨res,h1,rfl,_⟩:=EK (w:=c.w) (es:=[]) (aj:=#[]) (r:=none) hk hu (by simp [eP]) (by simp [rn]);refine ⟨_,?_,HV cx⟩;simp only [Instr.lookup,Sem.run_bind,cB ht,Result.andThen_ok];simp at h1;simp [ga,h1,eC]
end Go.Abs
/-
 The abstract fR,part D: the EL that leave the own objects alone.
-/
namespace Go.Abs
open Go
variable {P:Program}
theorem Ak {c:Cx} {v:AV} {l:List AV} {u:Value} (h:qc v=some l) (hr:ae c v u) :
  au c l u.cells.toList/\∀ x∈u.cells,x.oneCell'=true:=by
 unfold qc at h;split at h
 ·cases h
  rw [ae] at hr;obtain ⟨us,rfl,h1,h2⟩:=hr;exact ⟨h2,h1⟩
 ·cases h
 ·cases h
 rename_i n1 n2 n3;cases h
 have hu:u.cells=#[u]/\u.oneCell'=true:=by
  cases v<;>first|(exact absurd rfl (n1 _))|(exact absurd rfl (n2 _))|(exact absurd rfl n3)|skip
  all_goals simp only [ae] at hr
  case HG=>cases u<;>simp_all [Value.oneCell',Value.cells]
  case bool=>subst hr;simp [Value.oneCell',Value.cells]
  case int=>obtain ⟨rfl,_⟩:=hr;simp [Value.oneCell',Value.cells]
  case str=>obtain ⟨b,rfl,_⟩:=hr;simp [Value.oneCell',Value.cells]
  case aS=>subst hr;simp [Value.oneCell',Value.cells]
  case wo=>obtain ⟨b,c,rfl,_⟩:=hr;simp [Value.oneCell',Value.cells]
  case gu=>subst hr;simp [Value.oneCell',Value.cells]
  case sl=>obtain ⟨b,c,rfl,_⟩:=hr;simp [Value.oneCell',Value.cells]
  case aQ=>obtain ⟨p,c,_,_,_,rfl,_⟩:=hr;simp [Value.oneCell',Value.cells]
  case eO=>obtain ⟨p,_,_,rfl,_⟩:=hr;simp [Value.oneCell',Value.cells]
  case ai=>obtain ⟨p,c,rfl,_⟩:=hr;simp [Value.oneCell',Value.cells]
  case ba=>obtain ⟨p,_,_,rfl⟩:=hr;simp [Value.oneCell',Value.cells]
  case jC=>subst hr;simp [Value.oneCell',Value.cells]
  case omap=>obtain ⟨p,_,rfl⟩:=hr;simp [Value.oneCell',Value.cells]
  case BE=>subst hr;simp [Value.oneCell',Value.cells]
  case fn=>obtain ⟨p,rfl,_⟩:=hr;simp [Value.oneCell',Value.cells]
  case Ew=>subst hr;simp [Value.oneCell',Value.cells]
  case tN=>obtain ⟨p,_,rfl⟩:=hr;simp [Value.oneCell',Value.cells]
 rw [hu.1];refine ⟨?_,by simpa using hu.2⟩;simp only [au];exact ⟨u,[],rfl,hr,rfl⟩
section
variable {n:Nat} {X:Nat->Prop} {g0:Gh} {r:aC} {h:af} {a:Act} {w:World}
theorem qj {g:G} {p:Prop} (he:∀ e∈g,e.2.1=e.2.2) (hp:gP g p):p:=by
 induction g with
 | nil=>exact hp
 | cons e g ih=>exact ih (fun e' h'=>he e' (by simp [h'])) (hp (he e (by simp)))
def MT (X:Nat->Prop) (g0:Gh) (h:af) (w:World) (K:AV->Prop) (d:Option Tmp) (a:Act) (next:Act->World->Prop):Prop:=
 ∀ v g' u w',K v->CW X g' h w'->ae ⟨g',live X h,w'⟩ v u->Step X g0 h w g' h w'->next (a.put d u) w'
theorem fq {o:Oper} {K:AV->Prop} {next:Act->World->Prop} {Q:Exit->Act->World->Prop} (hc:bK n X g0 r h a w) (hn:MT X g0 h w K o.dst a next)
  {u:Value} {v:AV} (hk:K v) (hu:ae ⟨g0,live X h,w⟩ v u) (hr:(execOp a.eval o).run P w=.ok (.value u) w):o.wp P a w next Q:=
 ep hr (hn v g0 u w hk hc.cw hu (Step.refl _ _ _ _))
theorem wz {k:Nat} (h:k<=aq):IntKind.i64.has (k:Int):=by unfold aq at h;constructor<;>simp [IntKind.min,IntKind.max,IntKind.signed,IntKind.bits]<;>omega
theorem Ua {c:Cx} {t ty:TypeId} {x:AV} {u:Value} {K:AV->Prop} (h:tQ (P.underlying t) x K) (hu:ae c x u) :
  ∃ v s,K v/\ae c v s/\(Builtin.len_ #[t] ty #[u]).run P c.w=.ok s c.w:=by
 unfold tQ at h;split at h
 ·rename_i e k q xs hd;simp only [ae] at hu;obtain ⟨b,cap,rfl,h1,h2,_⟩:=hu;exact ⟨_,_,h,by rw [ae];exact ⟨rfl,wz h2⟩,by simp [Builtin.len_,cB hd,goInt]⟩
 ·rename_i e hd;simp only [ae] at hu;subst hu;exact ⟨_,_,h,by rw [ae];exact ⟨rfl,wz (k:=0) (Nat.zero_le _)⟩,by simp [Builtin.len_,cB hd,goInt]⟩
 ·rename_i e k hd;simp only [ae] at hu;obtain ⟨a,cap,rfl,_⟩:=hu;exact ⟨_,_,h,by rw [ae];exact ⟨rfl,wz (k:=0) (Nat.zero_le _)⟩,by simp [Builtin.len_,cB hd,goInt]⟩
 ·rename_i e hd;simp only [ae] at hu;subst hu;exact ⟨_,_,h,by rw [ae];exact ⟨rfl,wz (k:=0) (Nat.zero_le _)⟩,by simp [Builtin.len_,cB hd,goInt]⟩
 ·rename_i e b o m k hd;simp only [ae] at hu;obtain ⟨p,cap,_,_,_,rfl,_,h2,_⟩:=hu;exact ⟨_,_,h,by rw [ae];exact ⟨rfl,wz h2⟩,by simp [Builtin.len_,cB hd,goInt]⟩
 ·rename_i e b o m c k hd;simp only [ae] at hu;obtain ⟨p,_,_,rfl,_,h2,_⟩:=hu;exact ⟨_,_,h,by rw [ae];exact ⟨rfl,wz h2⟩,by simp [Builtin.len_,cB hd,goInt]⟩
 ·rename_i s hd;rw [ae] at hu;obtain ⟨b,rfl,rfl,h2⟩:=hu;refine ⟨_,_,h,by rw [ae];exact ⟨rfl,wz h2⟩,?_⟩;simp [Builtin.len_,cB hd,goInt]
 exact h.elim
theorem MU {c:Cx}:∀ {l:List AV} {us:List Value} {x m:Int},foldI min x l=some m->au c l us->IntKind.i64.has x ->
  IntKind.i64.has m/\∀ w:World,(us.foldlM Builtin.min2 (Value.int .i64 x)).run P w=.ok (.int .i64 m) w
 | [],us,x,m,h,hr,hx=>by simp [foldI] at h;subst h;simp [au] at hr;subst hr;exact ⟨hx,fun w=>by simp⟩
 | y::l,us,x,m,h,hr,hx=>by
   simp only [au] at hr;obtain ⟨u,r,rfl,h1,h2⟩:=hr;cases y<;>try (simp [foldI] at h;done)
   rename_i k b;cases k<;>try (simp [foldI] at h;done)
   rw [ae] at h1;obtain ⟨rfl,hb⟩:=h1;have hm:IntKind.i64.has (min x b):=by rcases Int.le_total x b with e|e<;>simp [Int.min_eq_left,Int.min_eq_right,e,hx,hb]
   obtain ⟨e1,e2⟩:=MU (x:=min x b) (by simpa [foldI] using h) h2 hm;refine ⟨e1,fun w=>?_⟩;have e:(if b<x then b else x)=min x b:=by split<;>omega
   simp only [List.foldlM_cons,Sem.run_bind,Builtin.min2,Sem.run_pure,Result.andThen,e];exact e2 w
theorem MV {c:Cx}:∀ {l:List AV} {us:List Value} {x m:Int},foldI max x l=some m->au c l us->IntKind.i64.has x ->
  IntKind.i64.has m/\∀ w:World,(us.foldlM Builtin.max2 (Value.int .i64 x)).run P w=.ok (.int .i64 m) w
 | [],us,x,m,h,hr,hx=>by simp [foldI] at h;subst h;simp [au] at hr;subst hr;exact ⟨hx,fun w=>by simp⟩
 | y::l,us,x,m,h,hr,hx=>by
   simp only [au] at hr;obtain ⟨u,r,rfl,h1,h2⟩:=hr;cases y<;>try (simp [foldI] at h;done)
   rename_i k b;cases k<;>try (simp [foldI] at h;done)
   rw [ae] at h1;obtain ⟨rfl,hb⟩:=h1;have hm:IntKind.i64.has (max x b):=by rcases Int.le_total x b with e|e<;>simp [Int.max_eq_left,Int.max_eq_right,e,hx,hb]
   obtain ⟨e1,e2⟩:=MV (x:=max x b) (by simpa [foldI] using h) h2 hm;refine ⟨e1,fun w=>?_⟩;have e:(if b > x then b else x)=max x b:=by split<;>omega
   simp only [List.foldlM_cons,Sem.run_bind,Builtin.max2,Sem.run_pure,Result.andThen,e];exact e2 w
end
section
variable {n:Nat} {X:Nat->Prop} {g0:Gh} {r:aC} {h:af} {a:Act} {w:World}
theorem EM {f:FuncId} {us:Array Value} (hf:tP P f):(callFunc f us).run P w=.ok (.enter f us) w:=by obtain ⟨fn,c,h1,h2,h3⟩:=hf;simp only [callFunc,Sem.run_bind,run_program,Result.andThen,h1,h3,h2];simp
theorem wq.calls {f:FuncId} {us:Array Value} {R:Ending->World->Prop} (hf:tP P f) (hc:wq P f us w R):Calls P f us w R:=by
 rcases hc with ⟨_,h⟩|⟨v,w',h,_⟩
 ·exact h
 rw [EM hf] at h;cases h
theorem EN {f:FuncId} {vs:List AV} {R:AV->af->Prop} {o:Oper} {us:Array Value} {next:Act->World->Prop} {Q:Exit->Act->World->Prop}
  (hq:aw P f vs h R) (hc:CW X g0 h w) (hv:au ⟨g0,live X h,w⟩ vs us.toList)
  (bu:(execOp a.eval o).run P w=(callFunc f us).run P w)
  (hn:∀ v h' g' u w',R v h'->CW X g' h' w'->ae ⟨g',live X h',w'⟩ v u->Step X g0 h w g' h' w'->next (a.put o.dst u) w'):o.wp P a w next Q:=by
 rcases hq.1 X g0 w us hc hv with ⟨h1,h2⟩|⟨u,w',h1,v,u',g',h',e,h3,h4,h5,h6⟩
 ·rw [EM h1] at bu;simp only [Oper.wp,bu,Oper.upon];refine h2.mono fun e w' he=>?_;obtain ⟨v,u,g',h',rfl,h1,h2,h3,h4⟩:=he;exact hn v h' g' u w' h1 h2 h3 h4
 cases e
 rw [h1] at bu;exact ep bu (hn v h' g' _ w' h3 h4 h5 h6)
end
theorem MW:∀ (vs:List Value) (k off:Nat) (cs:Array Value),off+k+vs.length<=cs.size ->
  ((vs.zipIdx k).foldl (fun cs (x:Value × Nat)=>cs.setIfInBounds (off+x.2) x.1) cs).toList=cs.toList.take (off+k)++vs++cs.toList.drop (off+k+vs.length)
 | [],k,off,cs,h=>by simp
 | v::vs,k,off,cs,h=>by
   simp only [List.length_cons] at h;simp only [List.zipIdx_cons,List.foldl_cons];rw [MW vs (k+1) off _ (by simp;omega)];simp only [Array.toList_setIfInBounds,List.length_cons];have hlen:off+k<cs.toList.length:=by simp;omega
   rw [show off+(k+1)=off+k+1 from by omega,List.take_succ_eq_append_getElem (by simp;omega),List.take_set];simp only [List.getElem_set_self,List.append_assoc,List.singleton_append];rw [List.set_eq_of_length_le (by simp;omega),List.drop_set_of_lt (by omega)];rw [show off+k+1+vs.length=off+k+(vs.length+1) from by omega]
theorem MX (v:Value) (off:Nat) (cells:Array Value) (h:off+v.cells.size<=cells.size) :
  (v.cells.zipIdx.foldl (fun cs (x:Value × Nat)=>cs.setIfInBounds (off+x.2) x.1) cells).toList=cells.toList.take off++v.cells.toList++cells.toList.drop (off+v.cells.size):=by
 have:=MW v.cells.toList 0 off cells (by simpa using h);rw [<- Array.foldl_toList,Array.toList_zipIdx];simpa using this
theorem HW {c:Cx} {place:Nat->Option (Nat × Nat)}:∀ {ps:List (Nat × AV)} {cs out:List AV} {vs:List (Nat × Value)} {cells:Array Value},
  wu ps place cs=some out->(vs.map (·.1)=ps.map (·.1))->(∀ (i:Nat) (p:Nat × AV) (v:Nat × Value),ps[i]?=some p->vs[i]?=some v->ae c p.2 v.2)->au c cs cells.toList->(∀ u∈cells,u.oneCell'=true) ->
  ∃ res,Instr.fill place cells vs=some res/\au c out res.toList/\∀ u∈res,u.oneCell'=true
 | [],cs,out,vs,cells,h,hi,hr,hc,h1=>by simp [wu] at h;subst h;simp at hi;subst hi;exact ⟨cells,rfl,hc,h1⟩
 | (i,x)::ps,cs,out,vs,cells,h,hi,hr,hc,h1=>by
   cases vs with
   | nil=>simp at hi
   | cons v vs=>
     obtain ⟨j,v⟩:=v;simp at hi;obtain ⟨rfl,hi⟩:=hi;have hx:ae c x v:=hr 0 _ _ rfl rfl;unfold wu at h;cases hp:place j with
     | none=>simp [hp] at h
     | some q=>
       obtain ⟨off,size⟩:=q;simp only [hp] at h;cases hl:qc x with
       | none=>simp [hl] at h
       | some l=>
         simp only [hl] at h;obtain ⟨bq,qk⟩:=Ak hl hx;split at h
         ·rename_i iB;have iB:=Nat.eq_of_beq_eq_true iB;cases ht:takeN off cs with
          | none=>simp [ht] at h
          | some ta=>
            cases hd:iR (off+size) cs with
            | none=>simp [ht,hd] at h
            | some td=>
              simp only [ht,hd] at h;obtain ⟨t1,rfl⟩:=EG ht;obtain ⟨d1,rfl⟩:=yj hd;have hlen:=bq.length;have bT:=hc.length;simp only [Array.length_toList] at hlen bT;have lu:v.cells.size=size:=(by omega);have hb:off+v.cells.size<=cells.size:=(by omega);have hf:=MX v off cells hb
              obtain ⟨res,e1,e2,e3⟩:=HW (place:=place) (vs:=vs) (cells:=v.cells.zipIdx.foldl (fun cs (x:Value × Nat)=>cs.setIfInBounds (off+x.2) x.1) cells) h hi
               (fun k p w hp hw=>hr (k+1) p w (by simpa using hp) (by simpa using hw))
               (by rw [hf];rw [lu];exact au.append (au.append (au.take off hc) bq) (au.drop (off+size) hc))
               (fun u hu=>by
                 have dK:u∈(v.cells.zipIdx.foldl (fun cs (x:Value × Nat)=>cs.setIfInBounds (off+x.2) x.1) cells).toList:=(by simpa using hu);rw [hf] at dK;simp only [List.mem_append] at dK;rcases dK with (dK|dK)|dK
                 ·exact h1 u (by simpa using List.mem_of_mem_take dK)
                 ·exact qk u (by simpa using dK)
                 exact h1 u (by simpa using List.mem_of_mem_drop dK))
              refine ⟨res,?_,e2,e3⟩;unfold Instr.fill;simp only [hp];rw [if_neg (by simp [lu];omega)];exact e1
         cases h
theorem MY {P:Program}:∀ {fs:List Field} {l:List (Nat × Nat)},placesOf P fs=some l ->
  fs.mapM (fun f=>(P.info? f.type).map fun i=>(f.offset,i.size))=some l
 | [],l,h=>by simp [placesOf] at h;subst h;simp
 | f::fs,l,h=>by
   unfold placesOf at h;cases hi:P.info? f.type with
   | none=>simp [hi] at h
   | some i=>
     cases hp:placesOf P fs with
     | none=>simp [hi,hp] at h
     | some l'=>
       simp [hi,hp] at h;subst h;simp [List.mapM_cons,hi,MY hp]
theorem nr {P:Program} {c:Cx} {t:TypeId} {z:List AV} (h:iQ P t=some z):∃ i v,P.info? t=some i/\i.zero=some v/\au c z v.cells.toList/\∀ u∈v.cells,u.oneCell'=true:=by
 unfold iQ at h;cases hi:P.info? t with
 | none=>simp [hi] at h
 | some i=>
   cases hz:i.zero with
   | none=>simp [hi,hz] at h
   | some v=>
     simp [hi,hz] at h;refine ⟨i,v,rfl,hz,HM c h,?_⟩
     have one:∀ (vs:List Value) (xs:List AV),sy vs=some xs->∀ u∈vs,u.oneCell'=true:=by
      intro vs;induction vs with
      | nil=>intro xs _ u hu;cases hu
      | cons v vs ih=>
        intro xs hx u hu;unfold sy at hx;cases hv:oE v with
        | none=>simp [hv] at hx
        | some a=>
          cases hr:sy vs with
          | none=>simp [hv,hr] at hx
          | some b=>
            rcases List.mem_cons.1 hu with rfl|hu
            ·unfold oE at hv;split at hv<;>first|rfl|cases hv
            exact ih b hr u hu
     intro u hu;exact one _ _ h u (by simpa using hu)
theorem cj.flat {c:Cx} {k:Nat}:∀ {xs:List (List AV)} {b o:Nat},(∀ x∈xs,x.length=k)->bC c xs.flatten b o->cj c k xs b o
 | [],b,o,_,_=>by simp [cj]
 | x::xs,b,o,hk,h=>by simp only [cj];have hx:=hk x (by simp);simp only [List.flatten_cons] at h;have h1:=bC.take x.length h;have h2:=bC.drop x.length (by simp) h;simp at h1 h2;exact ⟨⟨hx,h1⟩,cj.flat (fun y hy=>hk y (by simp [hy])) (hx ▸ h2)⟩
theorem bC.append {c:Cx}:∀ {xs ys:List AV} {b o:Nat},bC c xs b o->bC c ys b (o+xs.length)->bC c (xs++ys) b o
 | [],ys,b,o,_,h=>by simpa using h
 | x::xs,ys,b,o,h,h'=>by simp only [List.cons_append,bC] at h ⊢;exact ⟨h.1,bC.append h.2 (by rw [show o+1+xs.length=o+(x::xs).length from by simp;omega];exact h')⟩
theorem cj.toFlat {c:Cx} {k:Nat}:∀ {xs:List (List AV)} {b o:Nat},cj c k xs b o->(∀ x∈xs,x.length=k)/\bC c xs.flatten b o
 | [],b,o,_=>by simp [bC]
 | x::xs,b,o,h=>by simp only [cj] at h;obtain ⟨⟨h1,h2⟩,h3⟩:=h;obtain ⟨e1,e2⟩:=cj.toFlat h3;refine ⟨fun y hy=>(List.mem_cons.1 hy).elim (fun e=>e ▸ h1) (e1 y),?_⟩;simp only [List.flatten_cons];exact bC.append h2 (h1 ▸ e2)
theorem lx {k:Nat}:∀ {xs:List (List AV)},(∀ x∈xs,x.length=k)->xs.flatten.length=xs.length*k
 | [],_=>by simp
 | x::xs,h=>by have ih:=lx (xs:=xs) (fun y hy=>h y (List.mem_cons_of_mem _ hy));have hx:=h x (List.mem_cons_self ..);simp only [List.flatten_cons,List.length_append,List.length_cons,ih,hx,Nat.add_mul,Nat.one_mul];omega
end Go.Abs
/-
 The abstract fR,part E: every operation that leaves the own objects alone does xY the BG MZ.
-/
namespace Go.Abs
open Go
variable {P:Program} {n:Nat} {X:Nat->Prop} {g0:Gh} {r:aC} {h:af} {a:Act} {w:World}
theorem EO (hc:bK n X g0 r h a w) {g:G} (hg:dj a g) {size:Nat}:∀ {ps:List (Nat × Operand)} {k:Nat} {l:List (List AV)},
  iA r g size k ps=some l->∀ (cells:Array Value),(k+ps.length)*size<=cells.size->(∀ u∈cells,u.oneCell'=true) ->
  ∃ res us,Instr.fill (fun i=>some (i*size,size)) cells (ps.map fun (i,x)=>(i,a.eval x))=some res/\l.length=ps.length/\(∀ x∈l,x.length=size) /\
   au ⟨g0,live X h,w⟩ l.flatten us/\us.length=ps.length*size/\res.toList=cells.toList.take (k*size)++us++cells.toList.drop ((k+ps.length)*size) /\
   (∀ u∈res,u.oneCell'=true)
 | [],k,l,he,cells,hs,h1=>by simp [iA] at he;subst he;exact ⟨cells,[],rfl,rfl,by simp,by simp [au],by simp,by simp,h1⟩
 | (i,x)::ps,k,l,he,cells,hs,h1=>by
   unfold iA at he;split at he
   ·rename_i py;have py:=Nat.eq_of_beq_eq_true py;subst py;cases hx:aL r g x with
    | none=>simp [hx] at he
    | some v=>
      simp only [hx] at he;cases hv:qc v with
      | none=>simp [hv] at he
      | some y=>
        simp only [hv] at he;split at he
        ·rename_i hl;have hl:=Nat.eq_of_beq_eq_true hl;cases hr:iA r g size (i+1) ps with
         | none=>simp [hr] at he
         | some l'=>
           simp [hr] at he;subst he;have cJ:=hc.aL hg hx;obtain ⟨bq,qk⟩:=Ak hv cJ;have hlen:=bq.length;simp only [Array.length_toList] at hlen;have lu:(a.eval x).cells.size=size:=(by omega);simp only [List.length_cons] at hs;have e0:(i+(ps.length+1))*size=i*size+size+ps.length*size:=by simp only [Nat.add_mul,Nat.one_mul];omega
           have hb:i*size+(a.eval x).cells.size<=cells.size:=(by omega);have hf:=MX (a.eval x) (i*size) cells hb;have iB:((a.eval x).cells.zipIdx.foldl (fun cs (x:Value × Nat)=>cs.setIfInBounds (i*size+x.2) x.1) cells).size=cells.size:=by have:=congrArg List.length hf;simp only [Array.length_toList,List.length_append,List.length_take,List.length_drop] at this;omega
           obtain ⟨res,us,e1,e2,e3,e4,e5,e6,e7⟩:=EO hc hg hr ((a.eval x).cells.zipIdx.foldl (fun cs (x:Value × Nat)=>cs.setIfInBounds (i*size+x.2) x.1) cells)
            (by rw [iB];rw [show i+1+ps.length=i+(ps.length+1) from by omega];exact hs)
            (fun u hu=>by
              have dK:u∈((a.eval x).cells.zipIdx.foldl (fun cs (x:Value × Nat)=>cs.setIfInBounds (i*size+x.2) x.1) cells).toList:=(by simpa using hu);rw [hf] at dK;simp only [List.mem_append] at dK;rcases dK with (dK|dK)|dK
              ·exact h1 u (by simpa using List.mem_of_mem_take dK)
              ·exact qk u (by simpa using dK)
              exact h1 u (by simpa using List.mem_of_mem_drop dK))
           refine ⟨res,(a.eval x).cells.toList++us,?_,by simp [e2],?_,?_,?_,?_,e7⟩
           ·simp only [List.map_cons];unfold Instr.fill;simp only [];rw [if_neg (by simp [lu];omega)];exact e1
           ·intro z hz;rcases List.mem_cons.1 hz with rfl|hz
            ·exact hl
            exact e3 z hz
           ·simp only [List.flatten_cons];exact au.append bq e4
           ·simp only [List.length_append,Array.length_toList,e5,lu,List.length_cons,Nat.add_mul];omega
           rw [e6,hf];simp only [List.length_cons];have t1:(cells.toList.take (i*size)++(a.eval x).cells.toList++cells.toList.drop (i*size+(a.eval x).cells.size)).take ((i+1)*size)=cells.toList.take (i*size)++(a.eval x).cells.toList:=by rw [List.take_append_of_le_length (by simp only [List.length_append,List.length_take,Array.length_toList,Nat.add_mul];omega)];exact List.take_of_length_le (by simp only [List.length_append,List.length_take,Array.length_toList,Nat.add_mul];omega)
           rw [t1]
           have t2:(cells.toList.take (i*size)++(a.eval x).cells.toList++cells.toList.drop (i*size+(a.eval x).cells.size)).drop ((i+1+ps.length)*size)=cells.toList.drop ((i+(ps.length+1))*size):=by
            have hle:(cells.toList.take (i*size)++(a.eval x).cells.toList).length<=(i+1+ps.length)*size:=by simp only [List.length_append,List.length_take,Array.length_toList,Nat.add_mul];omega
            rw [List.drop_append,List.drop_of_length_le hle,List.nil_append,List.drop_drop];congr 1;simp only [List.length_append,List.length_take,Array.length_toList,Nat.add_mul];omega
           rw [t2];simp
        cases he
   cases he
theorem Na {t:TypeId} {x:AV} {u:Value} {K:AV->Prop} (hc:CW X g0 h w) (hu:ae ⟨g0,live X h,w⟩ x u)
  (hk:match x with
    | .ai cs=>gv P t cs K
    | .ba b o=>∃ cs l,(b,Ob.vec cs)∈h/\iR o cs=some l/\gv P t l K
    | _=>False) :
  ∃ v s,K v/\ae ⟨g0,live X h,w⟩ v s/\(Instr.loadAt t u).run P w=.ok s w:=by
 cases x<;>try exact hk.elim
 case ai cs=>
  rw [ae] at hu;obtain ⟨b,o,rfl,hr⟩:=hu;obtain ⟨v,s,h1,h2,h3⟩:=TQ hr hk;exact ⟨v,s,h1,h2,by simpa [Instr.loadAt,Instr.sureAddr] using h3⟩
 case ba b o=>
  rw [ae] at hu;obtain ⟨p,hp,hs,rfl⟩:=hu;obtain ⟨cs,l,hm,hd,hl⟩:=hk;obtain ⟨h1,rfl⟩:=yj hd;obtain ⟨p',aX,ly,us,e1,e2,e3,e4⟩:=TR (hc.obj b _ hm);simp only at aX;rw [hp] at aX;cases aX
  obtain ⟨v,s,k1,k2,k3⟩:=MI (P:=P) (t:=t) (b:=p.block) (o:=p.off+o) (us:=us.drop o) (c:=⟨g0,live X h,w⟩)
   (fun j u hu=>by rw [Nat.add_assoc];exact e2 (o+j) u (by simpa using hu)) (fun j u hu=>e3 (o+j) u (by simpa using hu)) (au.drop o e4) hl
  exact ⟨v,s,k1,k2,by simpa [Instr.loadAt,Instr.sureAddr] using k3⟩
theorem Nb {s:TypeId} {f:Nat} {fd:Field} (hf:uQ P s f=some fd):∃ fs,P.underlying s=some (.struct fs)/\fs[f]?=some fd:=by
 unfold uQ at hf;split at hf
 ·rename_i fs hu;exact ⟨fs,hu,by simpa using hf⟩
 cases hf
theorem Nc {s:TypeId} {f:Nat} {fd:Field} (hf:uQ P s f=some fd) (hs:Nat.ble 1 (P.cellsOf fd.type)=true) (b o:Nat) :
  (Instr.fieldAt s (.pointer (some ⟨b,o,none⟩)) f).run P w=.ok (.pointer (some ⟨b,o+fd.offset,none⟩)) w:=by
 obtain ⟨fs,hu,hf⟩:=Nb hf;have hs:=Nat.le_of_ble_eq_true hs
 have hi:∃ i,P.info? fd.type=some i:=by
  cases hi:P.info? fd.type with
  | none=>simp [Program.cellsOf,hi] at hs
  | some i=>exact ⟨i,rfl⟩
 obtain ⟨i,hi⟩:=hi;have aM:P.cellsOf fd.type≠0:=(by omega);simp [Instr.fieldAt,cB hu,hf,Instr.sureAddr,fieldPlace,px hi,aM,Addr.add]
theorem cj.get {c:Cx} {k:Nat}:∀ {xs:List (List AV)} {b o j:Nat} {y:List AV},cj c k xs b o->xs[j]?=some y->bC c y b (o+j*k)
 | [],b,o,j,y,_,h=>by simp at h
 | x::xs,b,o,0,y,hr,h=>by simp only [cj] at hr;simp at h;subst h;simpa using hr.1.2
 | x::xs,b,o,j+1,y,hr,h=>by simp only [cj] at hr;have:=cj.get hr.2 (by simpa using h);rw [show o+(j+1)*k=o+k+j*k from by rw [Nat.add_mul,Nat.one_mul];omega];exact this
theorem Ub (xs:Array Operand):(xs.map a.eval).toList=xs.toList.map a.eval:=by simp
theorem EP {o:Oper} {f:FuncId} {cl:Call} (ho:o.op=.call cl) {bP:Array Value}
  (hv:∃ x,cl.callee=.value x/\a.eval x=.func (.func f) #[] bP) :
  (execOp a.eval o).run P w=(callFunc f (cl.args.map a.eval++bP)).run P w:=by
 obtain ⟨x,h1,h2⟩:=hv;simp only [execOp,ho,Sem.run_bind,resolve,h1,h2,Deferred.ofValue,Sem.run_pure,Result.andThen,invoke];simp only [Array.empty_append]
theorem Uc {c:Cx} {k:Nat} {t:Option Nat} {xs:List (List AV)} {base:Option Addr} {cap l m:Nat} (all:Bool) (hk:0<k)
  (hu:ae c (.sl k t xs) (.slice base xs.length cap)) (h1:l<=m) (h2:m<=xs.length) (ha:all=true->m=xs.length) :
  ae c (.sl k (HK all t) ((xs.take m).drop l)) (sliced base l m cap k):=by
 simp only [ae] at hu ⊢;obtain ⟨P8,P9,hv,e1,e2,e3,e4,e5,e6,e7⟩:=hu;injection hv with q1 q2 q3;subst q1;subst q3;have hlen:((xs.take m).drop l).length=m - l:=by simp;omega
 refine ⟨_,cap - l,by rw [hlen];rfl,by rw [hlen];omega,by rw [hlen];omega,hk,?_,?_,?_,?_⟩
 ·intro hb;cases base with
  | none=>have:=e4 rfl;omega
  | some a=>
    split at hb
    ·omega
    simp at hb
 ·intro a mz aM;cases base with
  | none=>split at mz<;>simp at mz
  | some a0=>
    have hs:=e5 a0 rfl (fun e=>by subst e;simp at aM);split at mz
    ·simp at mz;subst mz;exact hs
    simp at mz;subst mz;unfold Addr.add;split
    ·exact hs
    rfl
 ·intro a mz;cases base with
  | none=>split at mz<;>simp at mz
  | some a0=>
    have hr:=e6 a0 rfl;by_cases bq:cap=l
    ·have:(xs.take m).drop l=[]:=List.eq_nil_of_length_eq_zero (by rw [hlen];omega);rw [this];simp [cj]
    rw [if_neg bq] at mz;simp at mz;subst mz
    have key:∀ (l:Nat) (ys:List (List AV)) (b o:Nat),cj c k ys b o->cj c k (ys.drop l) b (o+l*k):=by
     intro l;induction l with
     | zero=>intro ys b o hy;simpa using hy
     | succ l ih=>
       intro ys b o hy;cases ys with
       | nil=>simp [cj]
       | cons y ys=>
         simp only [cj] at hy;have:=ih ys b (o+k) hy.2;rw [show o+(l+1)*k=o+k+l*k from by rw [Nat.add_mul,Nat.one_mul];omega];simpa using this
    have Ud:∀ (m:Nat) (ys:List (List AV)) (b o:Nat),cj c k ys b o->cj c k (ys.take m) b o:=by
     intro m;induction m with
     | zero=>intro ys b o hy;simp [cj]
     | succ m ih=>
       intro ys b o hy;cases ys with
       | nil=>simp [cj]
       | cons y ys=>
         simp only [cj,List.take_succ_cons] at hy ⊢;exact ⟨hy.1,ih ys b _ hy.2⟩
    have:=key l _ _ _ (Ud m _ _ _ hr);unfold Addr.add;split
    ·rename_i h0;rw [h0] at this;simpa using this
    exact this
 intro q hq;cases all with
 | false=>cases hq
 | true=>
   have hm:=ha rfl;simp only [HK] at hq;rcases e7 q hq with e7|⟨a0,rfl,hs,hp,hh⟩
   ·left;rw [hlen];omega
   by_cases bq:cap=l
   ·left;rw [hlen];omega
   right;rw [if_neg bq];have el:a0.off+xs.length*k=a0.off+l*k+(m - l)*k:=by rw [Nat.add_assoc,<- Nat.add_mul];congr 2;omega
   have ec:a0.off+cap*k=a0.off+l*k+(cap - l)*k:=by rw [Nat.add_assoc,<- Nat.add_mul];congr 2;omega
   refine ⟨⟨a0.block,a0.off+l*k,none⟩,?_,rfl,?_,?_⟩
   ·simp only [Option.map_some,Addr.add];split
    ·rename_i h0;rw [h0];cases a0;simp_all
    rfl
   ·rw [hlen,hp];simp only [el]
   simp only;rw [<- ec];exact hh
theorem ER {t e:TypeId} {base:Option Addr} {len cap:Nat} (hu:P.underlying t=some (.slice e)) (hk:∃ i,P.info? e=some i) {ry rz:Option Value} {lo hi:Int}
  (ql:ry=none/\lo=0\/∃ k,ry=some (.int k lo)) (nu:rz=none/\hi=len\/∃ k,rz=some (.int k hi)) (h0:0<=lo) (h1:lo<=hi) (h2:hi<=cap) (hc:len<=cap) :
  (Instr.sliceAt t (.slice base len cap) ry rz none).run P w=.ok (sliced base lo.toNat hi.toNat cap (P.cellsOf e)) w:=by
 obtain ⟨i,dT⟩:=hk;have p1:0<=hi:=(by omega);have p2:hi<=cap:=(by omega);have b1:((hi.toNat:Nat):Int)=hi:=(by omega);have b2:hi=(len:Int)->hi.toNat=len:=(by omega);rcases ql with ⟨rfl,rfl⟩|⟨kl,rfl⟩
 ·rcases nu with ⟨rfl,e⟩|⟨kh,rfl⟩
  ·simp [Instr.sliceAt,cB hu,Instr.slice,Instr.sliceBounds,px dT,sliced,b2 e]
  simp [Instr.sliceAt,cB hu,Instr.slice,Instr.sliceBounds,Instr.sliceBound,asIntOf,px dT,sliced,p1,p2]
 rcases nu with ⟨rfl,e⟩|⟨kh,rfl⟩
 ·have:lo<=(len:Int):=(by omega);simp [Instr.sliceAt,cB hu,Instr.slice,Instr.sliceBounds,Instr.sliceBound,asIntOf,px dT,sliced,b2 e,h0,this]
 have:lo<=max hi 0:=(by omega);simp [Instr.sliceAt,cB hu,Instr.slice,Instr.sliceBounds,Instr.sliceBound,asIntOf,px dT,sliced,p1,p2,h0,b1,h1,this]
theorem Ue {t:TypeId} {s:ByteArray} (hu:P.underlying t=some .string) {ry rz:Option Value} {lo hi:Int}
  (ql:ry=none/\lo=0\/∃ k,ry=some (.int k lo)) (nu:rz=none/\hi=s.size\/∃ k,rz=some (.int k hi)) (h0:0<=lo) (h1:lo<=hi) (h2:hi<=s.size) :
  (Instr.sliceAt t (.string s) ry rz none).run P w=.ok (.string (s.extract lo.toNat hi.toNat)) w:=by
 have p1:0<=hi:=(by omega);have b1:((hi.toNat:Nat):Int)=hi:=(by omega);have b2:hi=(s.size:Int)->hi.toNat=s.size:=(by omega);rcases ql with ⟨rfl,rfl⟩|⟨kl,rfl⟩
 ·rcases nu with ⟨rfl,e⟩|⟨kh,rfl⟩
  ·simp [Instr.sliceAt,cB hu,Instr.slice,Instr.sliceBounds,b2 e]
  simp [Instr.sliceAt,cB hu,Instr.slice,Instr.sliceBounds,Instr.sliceBound,asIntOf,p1,h2]
 rcases nu with ⟨rfl,e⟩|⟨kh,rfl⟩
 ·have:lo<=(s.size:Int):=(by omega);simp [Instr.sliceAt,cB hu,Instr.slice,Instr.sliceBounds,Instr.sliceBound,asIntOf,b2 e,h0,this]
 have:lo<=max hi 0:=(by omega);simp [Instr.sliceAt,cB hu,Instr.slice,Instr.sliceBounds,Instr.sliceBound,asIntOf,p1,h2,h0,b1,h1,this]
theorem Uf {c:Cx} {g:G} (he:∀ e∈g,e.2.1=e.2.2) {t:TypeId} {x:AV} {u:Value} {lo hi:Int} {all:Bool} {K:AV->Prop} {ry rz:Option Value} {m:Nat}
  (h:po g x lo hi all K) (hu:ae c x u) (hm:lenOf? x=some m) (bc:yf P t x=true)
  (ql:ry=none/\lo=0\/∃ k,ry=some (.int k lo)) (nu:rz=none/\hi=m/\all=true\/(∃ k,rz=some (.int k hi))/\all=false) :
  ∃ v s,K v/\ae c v s/\(Instr.sliceAt t u ry rz none).run P c.w=.ok s c.w:=by
 cases x<;>try (simp [lenOf?] at hm;done)
 case str s=>
  simp [lenOf?] at hm;subst hm;simp only [po] at h;obtain ⟨hb,hk⟩:=h;obtain ⟨h0,h1,h2⟩:=qj he hb
  have Ug:P.underlying t=some .string:=by
   unfold yf at bc;cases bo:P.underlying t with
   | none=>simp [bo] at bc
   | some d=>cases d<;>simp_all
  rw [ae] at hu;obtain ⟨b,rfl,rfl,hl⟩:=hu;have iB:(b.data.toList.length:Int)=b.size:=rfl;rw [iB] at h2;refine ⟨_,_,hk,?_,Ue (w:=c.w) Ug ql (by rcases nu with ⟨e1,e2,_⟩|⟨e1,_⟩;exact .inl ⟨e1,e2⟩;exact .inr e1) h0 h1 h2⟩;rw [ae];refine ⟨_,rfl,?_,?_⟩
  ·rw [ByteArray.data_extract,Array.toList_extract,List.extract_eq_take_drop,List.drop_take]
  simp only [List.length_drop,List.length_take];omega
 case sl k q xs=>
  simp [lenOf?] at hm;subst hm;simp only [po] at h;obtain ⟨hb,hk⟩:=h;obtain ⟨h0,h1,h2⟩:=qj he hb;unfold yf at bc;cases bo:P.underlying t with
  | none=>simp [bo] at bc
  | some d=>
  cases d<;>try (simp [bo] at bc;done)
  rename_i e;simp only [bo] at bc;have nw:=Nat.eq_of_beq_eq_true bc;have dK:=hu;simp only [ae] at dK;obtain ⟨base,cap,rfl,e1,e2,e3,_⟩:=dK
  have dT:∃ i,P.info? e=some i:=by
   cases bw:P.info? e with
   | none=>simp [Program.cellsOf,bw] at nw;omega
   | some i=>exact ⟨i,rfl⟩
  refine ⟨_,_,hk,?_,ER (w:=c.w) bo dT ql (by rcases nu with ⟨e1,e2,_⟩|⟨e1,_⟩;exact .inl ⟨e1,e2⟩;exact .inr e1) h0 h1 (by omega) e1⟩;rw [nw];exact Uc (l:=lo.toNat) (m:=hi.toNat) all e3 hu (by omega) (by omega) (fun ha=>by rcases nu with ⟨_,e,_⟩|⟨_,e⟩;omega;simp [ha] at e)
 case aS=>
  simp [lenOf?] at hm;subst hm;simp only [po] at h;obtain ⟨hb,hk⟩:=h;obtain ⟨h0,h1⟩:=qj he hb;unfold yf at bc;cases bo:P.underlying t with
  | none=>simp [bo] at bc
  | some d=>
  cases d<;>try (simp [bo] at bc;done)
  rename_i e;simp only [bo] at bc;have nw:=Nat.le_of_ble_eq_true bc;rw [ae] at hu;subst hu
  have dT:∃ i,P.info? e=some i:=by
   cases bw:P.info? e with
   | none=>simp [Program.cellsOf,bw] at nw
   | some i=>exact ⟨i,rfl⟩
  have hr:=ER (w:=c.w) (base:=none) (len:=0) (cap:=0) bo dT ql (by rcases nu with ⟨e1,e2,_⟩|⟨e1,_⟩;exact .inl ⟨e1,by omega⟩;exact .inr e1) (by omega) (by omega) (by omega) (Nat.le_refl 0);refine ⟨_,_,hk,?_,hr⟩;subst h0 h1;simp [ae,sliced]
 case aQ b off n k=>
  simp [lenOf?] at hm;subst hm;simp only [po] at h;obtain ⟨hb,hk⟩:=h;obtain ⟨h0,h1,h2,h3⟩:=qj he hb;unfold yf at bc;cases bo:P.underlying t with
  | none=>simp [bo] at bc
  | some d=>
  cases d<;>try (simp [bo] at bc;done)
  rename_i e;simp only [bo] at bc;have nw:=Nat.eq_of_beq_eq_true bc;rw [ae] at hu;obtain ⟨p,cap,o',x1,x2,rfl,x3,x4,x5,x6,x7,x8⟩:=hu
  have dT:∃ i,P.info? e=some i:=by
   cases bw:P.info? e with
   | none=>simp [Program.cellsOf,bw] at nw;omega
   | some i=>exact ⟨i,rfl⟩
  refine ⟨_,_,hk,?_,ER (w:=c.w) bo dT ql (by rcases nu with ⟨e1,e2,_⟩|⟨e1,_⟩;exact .inl ⟨e1,e2⟩;exact .inr e1) h0 h1 (by omega) x3⟩;rw [nw,ae];obtain ⟨cs,tt,ff,y1,y2⟩:=x6;have HX:lo.toNat*k+(cap - lo.toNat)*k=cap*k:=(by rw [<- Nat.add_mul,Nat.add_sub_cancel' (by omega)]);by_cases bq:cap=lo.toNat
  ·refine ⟨p,cap - lo.toNat,o',x1,x2,?_,by omega,by omega,x5,⟨cs,tt,ff,y1,by omega⟩,by omega,by omega⟩;unfold sliced;rw [if_pos bq]
  have:=x7 (by omega);subst this;refine ⟨p,cap - lo.toNat,o'+lo.toNat*k,x1,x2,?_,by omega,by omega,x5,⟨cs,tt,ff,y1,by omega⟩,fun _=>rfl,by omega⟩;unfold sliced;rw [if_neg bq]
  have eQ:(⟨p.block,p.off+o',none⟩:Addr).add (lo.toNat*k)=⟨p.block,p.off+(o'+lo.toNat*k),none⟩:=by
   unfold Addr.add;split
   ·rename_i h0;rw [h0];simp
   simp [Nat.add_assoc]
  simp only [Option.map_some,eQ]
 case eO b off n cap k=>
  simp [lenOf?] at hm;subst hm;simp only [po] at h;obtain ⟨hb,hk⟩:=h;obtain ⟨h0,h1,h2,h3⟩:=qj he hb;unfold yf at bc;cases bo:P.underlying t with
  | none=>simp [bo] at bc
  | some d=>
  cases d<;>try (simp [bo] at bc;done)
  rename_i e;simp only [bo] at bc;have nw:=Nat.eq_of_beq_eq_true bc;rw [ae] at hu;obtain ⟨p,x1,x2,rfl,x3,x4,x5,x6,x8⟩:=hu
  have dT:∃ i,P.info? e=some i:=by
   cases bw:P.info? e with
   | none=>simp [Program.cellsOf,bw] at nw;omega
   | some i=>exact ⟨i,rfl⟩
  refine ⟨_,_,hk,?_,ER (w:=c.w) bo dT ql (by rcases nu with ⟨e1,e2,_⟩|⟨e1,_⟩;exact .inl ⟨e1,e2⟩;exact .inr e1) h0 h1 h2 x3⟩;rw [nw,ae];obtain ⟨cs,tt,ff,y1,y2⟩:=x6;have HX:lo.toNat*k+(cap - lo.toNat)*k=cap*k:=(by rw [<- Nat.add_mul,Nat.add_sub_cancel' (by omega)]);unfold pn;by_cases bq:cap=lo.toNat
  ·rw [if_pos bq];refine ⟨p,x1,x2,?_,by omega,by unfold aq;omega,x5,⟨cs,tt,ff,y1,by omega⟩,by omega⟩;unfold sliced;rw [if_pos bq]
  rw [if_neg bq];refine ⟨p,x1,x2,?_,by omega,by unfold aq;omega,x5,⟨cs,tt,ff,y1,by omega⟩,by omega⟩;unfold sliced;rw [if_neg bq]
  have eQ:(⟨p.block,p.off+off,none⟩:Addr).add (lo.toNat*k)=⟨p.block,p.off+(off+lo.toNat*k),none⟩:=by
   unfold Addr.add;split
   ·rename_i h0;rw [h0];simp
   simp [Nat.add_assoc]
  simp only [Option.map_some,eQ]
set_option maxHeartbeats 1000000 in
theorem ES {o:Oper} {g:G} {K:AV->Prop} {next:Act->World->Prop} {Q:Exit->Act->World->Prop}
  (hq:bH P r g h K o.op) (hc:bK n X g0 r h a w) (hg:dj a g) (he:∀ e∈g,e.2.1=e.2.2) (hn:MT X g0 h w K o.dst a next):o.wp P a w next Q:=by
 obtain ⟨dst,op,ty,pos,gK,gd⟩:=o;simp only at hq hn;cases op
 case move x=>
  simp only [bH] at hq;cases hx:aL r g x with
  | none=>simp [hx] at hq
  | some v=>simp only [hx] at hq;exact fq hc hn hq (hc.aL hg hx) (by simp [execOp])
 case assign x=>
  simp only [bH] at hq;cases hx:aL r g x with
  | none=>simp [hx] at hq
  | some v=>simp only [hx] at hq;exact fq hc hn hq (hc.aL hg hx) (by simp [execOp])
 case pick x y z=>
  unfold bH at hq;split at hq<;>try contradiction
  ·rename_i t ta heq;injection heq with e1 e2 e3;subst e1;subst e2;subst e3;cases ht:aL r g (.tmp t) with
   | none=>simp [ht] at hq
   | some vt=>
     cases vt<;>simp [ht] at hq
     rename_i b;cases ha:aL r (g++[(t,b,true)]) (.tmp ta) with
     | none=>simp [ha] at hq
     | some va=>
       cases va<;>simp [ha] at hq
       rename_i xb;have oH:=hc.aL hg ht;rw [ae] at oH;cases b with
       | false=>exact fq (v:=.bool false) (u:=.bool false) hc hn (by simpa using hq) (by rw [ae]) (by have e1:a.eval (.const (.bool false))=.bool false:=rfl;have e2:a.eval (.const (.bool true))=.bool true:=rfl;simp [execOp,oH,asBool,e1,e2])
       | true=>
         have yl:a.tmps[t]?=some (.bool true):=by
          cases hh:a.tmps[t]? with
          | none=>simp [Act.eval,hh,undef] at oH
          | some u=>simp [Act.eval,hh] at oH;rw [oH]
         have BP:=hc.aL (g:=g++[(t,true,true)]) (fun e BQ=>by
          rcases List.mem_append.1 BQ with h1|h1
          ·exact hg e h1
          simp at h1;subst h1;exact yl) ha
         rw [ae] at BP;exact fq (v:=.bool xb) (u:=.bool xb) hc hn (by simpa using hq) (by rw [ae]) (by simp [execOp,oH,BP,asBool])
  rename_i t ta heq;injection heq with e1 e2 e3;subst e1;subst e2;subst e3;cases ht:aL r g (.tmp t) with
  | none=>simp [ht] at hq
  | some vt=>
    cases vt<;>simp [ht] at hq
    rename_i b;cases ha:aL r (g++[(t,b,false)]) (.tmp ta) with
    | none=>simp [ha] at hq
    | some va=>
      cases va<;>simp [ha] at hq
      rename_i xb;have oH:=hc.aL hg ht;rw [ae] at oH;cases b with
      | true=>exact fq (v:=.bool true) (u:=.bool true) hc hn (by simpa using hq) (by rw [ae]) (by have e1:a.eval (.const (.bool false))=.bool false:=rfl;have e2:a.eval (.const (.bool true))=.bool true:=rfl;simp [execOp,oH,asBool,e1,e2])
      | false=>
        have yl:a.tmps[t]?=some (.bool false):=by
         cases hh:a.tmps[t]? with
         | none=>simp [Act.eval,hh,undef] at oH
         | some u=>simp [Act.eval,hh] at oH;rw [oH]
        have BP:=hc.aL (g:=g++[(t,false,false)]) (fun e BQ=>by
         rcases List.mem_append.1 BQ with h1|h1
         ·exact hg e h1
         simp at h1;subst h1;exact yl) ha
        rw [ae] at BP;exact fq (v:=.bool xb) (u:=.bool xb) hc hn (by simpa using hq) (by rw [ae]) (by simp [execOp,oH,BP,asBool])
 case binOp op t x y yt=>
  simp only [bH] at hq;cases hx:aL r g x with
  | none=>simp [hx] at hq
  | some u=>
    cases hy:aL r g y with
    | none=>simp [hx,hy] at hq
    | some v=>
      simp only [hx,hy] at hq;obtain ⟨z,s,h1,h2,h3⟩:=TW (ox:=x) (oy:=y) he hq (hc.aL hg hx) (hc.aL hg hy);refine fq hc hn h1 h2 ?_;simp only [execOp,Sem.run_bind,h3,Result.andThen,Sem.run_pure]
 case unOp op t x=>
  unfold bH at hq;split at hq<;>try contradiction
  rename_i t' x' heq;injection heq with e1 e2 e3;subst e1;subst e2;subst e3;cases hx:aL r g x with
  | none=>simp [hx] at hq
  | some v=>
    cases v<;>simp [hx] at hq
    rename_i b;have hr:=hc.aL hg hx;rw [ae] at hr;exact fq (v:=.bool !b) (u:=.bool !b) hc hn hq (by rw [ae]) (by simp [execOp,hr,Op.unary])
 case fieldAddr s x f=>
  simp only [bH] at hq;cases hx:aL r g x with
  | none=>simp [hx] at hq
  | some v=>
    have hr:=hc.aL hg hx;cases v<;>try (simp [hx] at hq;done)
    case ai cs=>
     simp only [hx] at hq;cases hf:uQ P s f with
     | none=>simp [hf] at hq
     | some fd=>
       simp only [hf] at hq;cases hd:iR fd.offset cs with
       | none=>simp [hd] at hq
       | some l=>
         simp only [hd] at hq;split at hq
         ·rename_i hs;obtain ⟨d1,rfl⟩:=yj hd;rw [ae] at hr;obtain ⟨b,rA,hv,bT⟩:=hr;refine fq (u:=.pointer (some ⟨b,rA+fd.offset,none⟩)) hc hn hq ?_ ?_
          ·rw [ae];exact ⟨b,_,rfl,bC.drop _ d1 bT⟩
          simp [execOp,hv,Nc hf hs]
         exact hq.elim
    case ba b rA=>
     simp only [hx] at hq;cases hf:uQ P s f with
     | none=>simp [hf] at hq
     | some fd=>
       simp only [hf] at hq;split at hq
       ·rename_i hs;rw [ae] at hr;obtain ⟨p,hp,mA,hv⟩:=hr;refine fq (u:=.pointer (some ⟨p.block,p.off+rA+fd.offset,none⟩)) hc hn hq ?_ ?_
        ·rw [ae];exact ⟨p,hp,mA,by rw [Nat.add_assoc]⟩
        simp [execOp,hv,Nc hf hs]
       exact hq.elim
 case load t x=>
  simp only [bH] at hq;cases hx:aL r g x with
  | none=>simp [hx] at hq
  | some v=>
    simp only [hx] at hq;obtain ⟨z,s,h1,h2,h3⟩:=Na (t:=t) (K:=K) hc.cw (hc.aL hg hx) (by cases v<;>exact hq)
    exact fq hc hn h1 h2 (by simp [execOp,h3])
 case nilCheck x=>
  simp only [bH] at hq;cases hx:aL r g x with
  | none=>simp [hx] at hq
  | some v=>
    have hr:=hc.aL hg hx;cases v<;>try (simp [hx] at hq;done)
    case ai cs=>
     simp only [hx] at hq;refine fq hc hn hq hr ?_;rw [ae] at hr;obtain ⟨b,rA,hv,_⟩:=hr;simp [execOp,hv]
    case ba b rA=>
     simp only [hx] at hq;refine fq hc hn hq hr ?_;rw [ae] at hr;obtain ⟨p,_,_,hv⟩:=hr;simp [execOp,hv]
 case field s x f=>
  simp only [bH] at hq;cases hx:aL r g x with
  | none=>simp [hx] at hq
  | some v=>
    have hr:=hc.aL hg hx;cases v<;>try (simp [hx] at hq;done)
    rename_i cs;simp only [hx] at hq;cases hf:uQ P s f with
    | none=>simp [hf] at hq
    | some fd=>
      simp only [hf] at hq;cases hd:iR fd.offset cs with
      | none=>simp [hd] at hq
      | some l=>
        simp only [hd] at hq;obtain ⟨d1,rfl⟩:=yj hd;rw [ae] at hr;obtain ⟨us,hv,ho,bd⟩:=hr;obtain ⟨fs,hu,Nd⟩:=Nb hf;have jh:=au.drop fd.offset bd;unfold gv at hq;cases uW:nm P fd.type with
        | none=>simp [uW] at hq
        | some bb=>
        obtain ⟨EH,d,eR⟩:=HQ (w:=w) uW;obtain ⟨i,hi⟩:=MH eR;cases bb with
        | true=>
          simp only [uW] at hq;cases ht:takeN (P.cellsOf fd.type) (cs.drop fd.offset) with
          | none=>simp [ht] at hq
          | some l=>
            simp only [ht] at hq;obtain ⟨t1,rfl⟩:=EG ht;refine fq (u:=.agg (us.extract fd.offset (fd.offset+P.cellsOf fd.type))) hc hn hq ?_ ?_
            ·rw [ae];refine ⟨_,rfl,fun u hu=>?_,?_⟩
             ·have dK:u∈(us.extract fd.offset (fd.offset+P.cellsOf fd.type)).toList:=Array.mem_toList_iff.2 hu;rw [Array.toList_extract,List.extract_eq_take_drop] at dK;exact ho u (by simpa using List.mem_of_mem_drop (List.mem_of_mem_take dK))
             rw [Array.toList_extract,List.extract_eq_take_drop];simpa using au.take (P.cellsOf fd.type) jh
            simp [execOp,hv,Instr.field,cB hu,Nd,asAgg,part,EH,px hi]
        | false=>
          simp only [uW] at hq;cases hl:cs.drop fd.offset with
          | nil=>simp [hl] at hq
          | cons y l=>
            simp only [hl] at hq;rw [hl] at jh;simp only [au] at jh;obtain ⟨u,rr,e,h4,_⟩:=jh;refine fq (u:=u) hc hn hq h4 ?_;have lz:us[fd.offset]?=some u:=by have:=congrArg (·[0]?) e;simpa using this
            simp [execOp,hv,Instr.field,cB hu,Nd,asAgg,part,EH,lz]
 case box t x=>
  simp only [bH] at hq;cases hx:aL r g x with
  | none=>simp [hx] at hq
  | some v=>
    simp only [hx] at hq;cases hv:qc v with
    | none=>simp [hv] at hq
    | some l=>
      simp only [hv] at hq;split at hq
      ·have hr:=hc.aL hg hx;obtain ⟨h1,h2⟩:=Ak hv hr;obtain ⟨c1,c2⟩:=hc.cw.alloc (.cells (a.eval x).cells t);refine ep (u:=.pointer (some ⟨w.heap.size,0,none⟩)) (w':=w.alloc (.cells (a.eval x).cells t)) ?_ (hn _ g0 _ _ hq c1 ?_ c2)
       ·simp [execOp,Instr.box,newVar,newRow]
       rw [ae];exact ⟨_,_,rfl,bC.new hc.cw h1 h2⟩
      exact hq.elim
 case indexAddr t x i=>
  simp only [bH] at hq;cases bo:P.underlying t with
  | none=>simp [bo] at hq
  | some d=>
  cases d<;>try (simp [bo] at hq;done)
  case array m e=>
   simp only [bo] at hq;cases bw:P.info? e with
   | none=>simp [bw] at hq
   | some ie=>
   simp only [bw] at hq;cases hx:aL r g x with
   | none=>simp [hx] at hq
   | some v=>
     have hr:=hc.aL hg hx;cases v<;>try (simp [hx] at hq;done)
     rename_i cs;simp only [hx] at hq;cases hi:aL r g i with
     | none=>simp [hi] at hq
     | some vi=>
       cases vi<;>try (simp [hi] at hq;done)
       rename_i ki m';simp only [hi] at hq;obtain ⟨j,l,sH,hd,hK⟩:=hq;obtain ⟨rfl,gb⟩:=qj he sH;obtain ⟨d1,rfl⟩:=yj hd;have lA:=hc.aL hg hi;rw [ae] at lA;obtain ⟨lA,_⟩:=lA;rw [ae] at hr;obtain ⟨b,rA,hv,bT⟩:=hr;refine fq (u:=.pointer (some ⟨b,rA+j*P.cellsOf e,none⟩)) hc hn hK ?_ ?_
       ·rw [ae];exact ⟨b,_,rfl,bC.drop _ d1 bT⟩
       have eQ:(⟨b,rA,none⟩:Addr).add (j*P.cellsOf e)=⟨b,rA+j*P.cellsOf e,none⟩:=by
        unfold Addr.add;split
        ·rename_i h0;rw [h0];rfl
        rfl
       simp [execOp,hv,lA,Instr.indexAt,Instr.sureAddr,asIntOf,cB bo,gb,px bw,eQ]
  rename_i e;simp only [bo] at hq;cases hx:aL r g x with
  | none=>simp [hx] at hq
  | some v=>
    have hr:=hc.aL hg hx;cases v<;>try (simp [hx] at hq;done)
    case sl k q xs=>
     simp only [hx] at hq;split at hq<;>try contradiction
     rename_i hk;have hk:=Nat.eq_of_beq_eq_true hk;cases hi:aL r g i with
     | none=>simp [hi] at hq
     | some vi=>
       cases vi<;>try (simp [hi] at hq;done)
       rename_i ki m;simp only [hi] at hq;obtain ⟨j,y,sH,hK⟩:=hq;obtain ⟨rfl,hj⟩:=qj he sH;have lA:=hc.aL hg hi;rw [ae] at lA;obtain ⟨lA,_⟩:=lA;simp only [ae] at hr;obtain ⟨base,cap,hv,e1,e2,e3,e4,e5,e6,e7⟩:=hr;have gb:j<xs.length:=(List.getElem?_eq_some_iff.1 hj).1;cases base with
       | none=>have:=e4 rfl;omega
       | some ad=>
         have hs:=e5 ad rfl (fun e=>by subst e;simp at gb);have bT:=cj.get (e6 ad rfl) hj
         have bw:∃ i,P.info? e=some i:=by
          cases bw:P.info? e with
          | none=>simp [Program.cellsOf,bw] at hk;omega
          | some i=>exact ⟨i,rfl⟩
         obtain ⟨ie,bw⟩:=bw;refine fq (u:=.pointer (some ⟨ad.block,ad.off+j*k,none⟩)) hc hn hK ?_ ?_
         ·rw [ae];exact ⟨_,_,rfl,bT⟩
         have eQ:ad.add (j*k)=⟨ad.block,ad.off+j*k,none⟩:=by
          unfold Addr.add;split
          ·rename_i h0;rw [h0];cases ad;simp_all
          rfl
         simp [execOp,hv,lA,Instr.indexAt,asIntOf,cB bo,gb,px bw,<- hk,eQ]
    case aQ b off len k=>
     simp only [hx] at hq;split at hq<;>try contradiction
     rename_i hk;have hk:=Nat.eq_of_beq_eq_true hk;cases hi:aL r g i with
     | none=>simp [hi] at hq
     | some vi=>
       cases vi<;>try (simp [hi] at hq;done)
       rename_i ki m;simp only [hi] at hq;obtain ⟨j,sH,hK⟩:=hq;obtain ⟨rfl,gb⟩:=qj he sH;have lA:=hc.aL hg hi;rw [ae] at lA;obtain ⟨lA,_⟩:=lA;obtain ⟨p,cap,hp,hs,hv,e1,e2,e3,e4,_⟩:=hr.BF (by omega)
       have bw:∃ i,P.info? e=some i:=by
        cases bw:P.info? e with
        | none=>simp [Program.cellsOf,bw] at hk;omega
        | some i=>exact ⟨i,rfl⟩
       obtain ⟨ie,bw⟩:=bw;refine fq (u:=.pointer (some ⟨p.block,p.off+off+j*k,none⟩)) hc hn hK ?_ ?_
       ·rw [ae];exact ⟨p,hp,hs,by rw [Nat.add_assoc]⟩
       have eQ:(⟨p.block,p.off+off,none⟩:Addr).add (j*k)=⟨p.block,p.off+off+j*k,none⟩:=by
        unfold Addr.add;split
        ·rename_i h0;rw [h0];rfl
        rfl
       simp [execOp,hv,lA,Instr.indexAt,asIntOf,cB bo,gb,px bw,<- hk,eQ]
 case index t x i=>
  simp only [bH] at hq;cases bo:P.underlying t with
  | none=>simp [bo] at hq
  | some d=>
  cases d<;>try (simp [bo] at hq;done)
  simp only [bo] at hq;cases hx:aL r g x with
  | none=>simp [hx] at hq
  | some v=>
    have hr:=hc.aL hg hx;cases v<;>try (simp [hx] at hq;done)
    rename_i s;simp only [hx] at hq;cases hi:aL r g i with
    | none=>simp [hi] at hq
    | some vi=>
      cases vi<;>try (simp [hi] at hq;done)
      rename_i ki m;simp only [hi] at hq;obtain ⟨j,y,sH,hK⟩:=hq;obtain ⟨rfl,hj⟩:=qj he sH;have lA:=hc.aL hg hi;rw [ae] at lA;rw [ae] at hr;obtain ⟨lA,_⟩:=lA;obtain ⟨b,hv,rfl,hl⟩:=hr;refine fq (u:=.int .u8 (y.toNat:Int)) hc hn hK ?_ ?_
      ·rw [ae];refine ⟨rfl,?_⟩;have:=y.toNat_lt;constructor<;>simp [IntKind.min,IntKind.max,IntKind.signed,IntKind.bits]<;>omega
      have ym:b[j]?=some y:=by have:b.data[j]?=some y:=(by simpa using hj);obtain ⟨aP,e⟩:=Array.getElem?_eq_some_iff.1 this;have ET:j<b.size:=aP;simp only [getElem?_pos b j ET];exact congrArg some e
      simp [execOp,hv,lA,Instr.index,asIntOf,cB bo,ym]
 case extract x i=>
  simp only [bH] at hq;cases hx:aL r g x with
  | none=>simp [hx] at hq
  | some v=>
    have hr:=hc.aL hg hx;cases v<;>try (simp [hx] at hq;done)
    rename_i vs;simp only [hx] at hq;cases hd:iR i vs with
    | none=>simp [hd] at hq
    | some l=>
      simp only [hd] at hq;obtain ⟨d1,rfl⟩:=yj hd;cases hl:vs.drop i with
      | nil=>simp [hl] at hq
      | cons y l=>
        simp only [hl] at hq;rw [ae] at hr;obtain ⟨us,hv,bd⟩:=hr;have jh:=au.drop i bd;rw [hl] at jh;simp only [au] at jh;obtain ⟨u,rr,e,h4,_⟩:=jh;have lz:us[i]?=some u:=by have:=congrArg (·[0]?) e;simpa using this
        exact fq (u:=u) hc hn hq h4 (by simp [execOp,hv,Instr.extract,lz])
 case build t parts=>
  simp only [bH] at hq
  have Nf:∀ (qs:List (Nat × Operand)) (ps:List (Nat × AV)),partsOf r g qs=some ps->(qs.map fun (i,x)=>(i,a.eval x)).map (·.1)=ps.map (·.1) /\
    ∀ (i:Nat) (p:Nat × AV) (v:Nat × Value),ps[i]?=some p->(qs.map fun (i,x)=>(i,a.eval x))[i]?=some v->ae ⟨g0,live X h,w⟩ p.2 v.2:=by
   intro qs;induction qs with
   | nil=>intro ps hh;simp [partsOf] at hh;subst hh;simp
   | cons q qs ih=>
     intro ps hh;obtain ⟨i0,x0⟩:=q;unfold partsOf at hh;cases hx:aL r g x0 with
     | none=>simp [hx] at hh
     | some v0=>
       cases hr:partsOf r g qs with
       | none=>simp [hx,hr] at hh
       | some l=>
         simp [hx,hr] at hh;subst hh;obtain ⟨i1,i2⟩:=ih l hr;refine ⟨by simpa using i1,fun i p v hp hv=>?_⟩;cases i with
         | zero=>simp at hp hv;subst hp;subst hv;exact hc.aL hg hx
         | succ i=>exact i2 i p v (by simpa using hp) (by simpa using hv)
  cases bo:P.underlying t with
  | none=>simp [bo] at hq
  | some d=>
  cases d<;>try (simp [bo] at hq;done)
  case array m e=>
   simp only [bo] at hq;cases bw:P.info? e with
   | none=>simp [bw] at hq
   | some ie=>
   simp only [bw] at hq;cases iC:partsOf r g parts.toList with
   | none=>simp [iC] at hq
   | some ps=>
   simp only [iC] at hq;cases hz:iQ P t with
   | none=>simp [hz] at hq
   | some z=>
   simp only [hz] at hq;cases hf:wu ps (fun i=>some (i*ie.size,ie.size)) z with
   | none=>simp [hf] at hq
   | some cs=>
   simp only [hf] at hq;obtain ⟨i1,i2⟩:=Nf _ _ iC;obtain ⟨it,zv,HY,fT,eZ,uY⟩:=nr (c:=⟨g0,live X h,w⟩) hz;obtain ⟨res,e1,e2,e3⟩:=HW (c:=⟨g0,live X h,w⟩) hf i1 i2 eZ uY;refine fq (u:=.agg res) hc hn hq ?_ ?_
   ·rw [ae];exact ⟨_,rfl,e3,e2⟩
   have hb:P.built t (parts.map fun (i,x)=>(i,a.eval x)).toList=some res:=by simp only [Program.built,HY,bo,fT,bw];simpa using e1
   simp [execOp,run_build w t _ res hb]
  case struct fs=>
   simp only [bo] at hq;cases hp:placesOf P fs.toList with
   | none=>simp [hp] at hq
   | some pl=>
   simp only [hp] at hq;cases iC:partsOf r g parts.toList with
   | none=>simp [iC] at hq
   | some ps=>
   simp only [iC] at hq;cases hz:iQ P t with
   | none=>simp [hz] at hq
   | some z=>
   simp only [hz] at hq;cases hf:wu ps (fun i=>pl[i]?) z with
   | none=>simp [hf] at hq
   | some cs=>
   simp only [hf] at hq;obtain ⟨i1,i2⟩:=Nf _ _ iC;obtain ⟨it,zv,HY,fT,eZ,uY⟩:=nr (c:=⟨g0,live X h,w⟩) hz;obtain ⟨res,e1,e2,e3⟩:=HW (c:=⟨g0,live X h,w⟩) hf i1 i2 eZ uY;refine fq (u:=.agg res) hc hn hq ?_ ?_
   ·rw [ae];exact ⟨_,rfl,e3,e2⟩
   have hb:P.built t (parts.map fun (i,x)=>(i,a.eval x)).toList=some res:=by simp only [Program.built,HY,bo,fT,MY hp];simpa using e1
   simp [execOp,run_build w t _ res hb]
 case buildSlice t m parts=>
  simp only [bH] at hq;cases bo:P.underlying t with
  | none=>simp [bo] at hq
  | some d=>
  cases d<;>try (simp [bo] at hq;done)
  rename_i e;simp only [bo] at hq;cases hl:iA r g (P.cellsOf e) 0 parts.toList with
  | none=>simp [hl] at hq
  | some l=>
  simp only [hl] at hq;split at hq<;>try contradiction
  rename_i q1;split at hq<;>try contradiction
  rename_i q2;split at hq<;>try contradiction
  rename_i q3;cases hz:iQ P e with
  | none=>simp [hz] at hq
  | some z=>
  simp only [hz] at hq;split at hq<;>try contradiction
  rename_i q4;have q1:=Nat.eq_of_beq_eq_true q1;have q2:=Nat.le_of_ble_eq_true q2;have q3:=Nat.le_of_ble_eq_true q3;have q4:=Nat.eq_of_beq_eq_true q4;obtain ⟨ie,zv,bw,fT,eZ,uY⟩:=nr (c:=⟨g0,live X h,w⟩) hz;have iB:ie.size=P.cellsOf e:=(by simp [Program.cellsOf,bw]);have iD:zv.cells.size=P.cellsOf e:=by have:=eZ.length;simp at this;omega
  have BR:∀ u∈(Array.range (m*P.cellsOf e)).map (zv.cells[· % zv.cells.size]!),u.oneCell'=true:=by intro u hu;obtain ⟨j,hj,rfl⟩:=Array.mem_map.1 hu;have aP:j % zv.cells.size<zv.cells.size:=Nat.mod_lt _ (by omega);rw [getElem!_pos zv.cells _ aP];exact uY _ (Array.getElem_mem _)
  by_cases hm:m=0
  ·subst hm;have dw:l=[]:=List.eq_nil_of_length_eq_zero q1;subst dw
   have iC:parts.toList=[]:=by
    cases hh:parts.toList with
    | nil=>rfl
    | cons q qs=>
      rw [hh] at hl;obtain ⟨i0,x0⟩:=q;unfold iA at hl
      (repeat' split at hl)<;>simp_all
   have ft:parts=#[]:=(by simpa using iC);obtain ⟨c1,c2⟩:=hc.cw.alloc (.cells #[] e);refine ep (u:=.slice (some ⟨w.heap.size,0,none⟩) 0 0) (w':=w.alloc (.cells #[] e)) ?_ (hn _ g0 _ _ hq c1 ?_ c2)
   ·have e0:(Array.map (fun _=>(default:Value)) (Array.range 0))=#[]:=(by simp [Array.range]);simp [execOp,Instr.buildSlice,cB bo,px bw,ft,Instr.fill,newRow,e0]
   simp only [ae];exact ⟨_,0,rfl,by simp,by simp,by omega,by simp,by simp,by simp [cj],by simp⟩
  obtain ⟨res,us,e1,e2,e3,e4,e5,e6,e7⟩:=EO hc hg hl ((Array.range (m*P.cellsOf e)).map (zv.cells[· % zv.cells.size]!))
   (by
     have:∀ (ps:List (Nat × Operand)) (k:Nat) (l:List (List AV)),iA r g (P.cellsOf e) k ps=some l->l.length=ps.length:=by
      intro ps;induction ps with
      | nil=>intro k l hh;simp [iA] at hh;subst hh;rfl
      | cons q qs ih=>
        intro k l hh;obtain ⟨i0,x0⟩:=q;unfold iA at hh;split at hh<;>try contradiction
        split at hh<;>try contradiction
        split at hh<;>try contradiction
        split at hh<;>try contradiction
        split at hh<;>try contradiction
        rename_i l' hr;cases hh
        simp [ih _ _ hr]
     have:=this _ _ _ hl;rw [Nat.zero_add,<- this,q1];simp) BR
  have fu:parts.toList.length=m:=(by omega);have Ng:0<m*P.cellsOf e:=Nat.mul_pos (by omega) (by omega);have wA:res.toList=us:=by rw [e6];simp only [Nat.zero_mul,List.take_zero,List.nil_append,Nat.zero_add,fu];rw [List.drop_of_length_le (by simp)];simp
  have bu:=run_buildSlice (P:=P) w t e m (parts.map fun (i,x)=>(i,a.eval x)) res ie zv bo bw fT (by rw [iB];omega) (by rw [iB];omega)
   (by rw [iB];simpa using e1)
  obtain ⟨c1,c2⟩:=hc.cw.alloc (.cells res e);refine ep (u:=.slice (some ⟨w.heap.size,0,none⟩) m m) (w':=w.alloc (.cells res e)) ?_ (hn _ g0 _ _ hq c1 ?_ c2)
  ·simp [execOp,bu]
  have bT:=bC.new (t:=e) (us:=res) hc.cw (by rw [wA];exact e4) e7;simp only [ae];have Nh:m<=65536:=Nat.le_trans (Nat.le_mul_of_pos_right m (by omega)) q3;refine ⟨_,m,by rw [q1],by omega,by rw [q1];unfold aq;omega,by omega,by simp,by simp,?_,by simp⟩;intro ad ha;simp at ha;subst ha;exact cj.flat e3 bT
 case slice t x lo hi mx=>
  cases mx with
  | some _=>simp [bH] at hq
  | none=>
  simp only [bH] at hq;cases hx:aL r g x with
  | none=>simp [hx] at hq
  | some v=>
  simp only [hx] at hq;split at hq<;>try contradiction
  rename_i bc;cases hm:lenOf? v with
  | none=>simp [hm] at hq
  | some m=>
  simp only [hm] at hq;cases ql:pq r g lo 0 with
  | none=>simp [ql] at hq
  | some la=>
  simp only [ql] at hq;cases nu:pq r g hi (m:Int) with
  | none=>simp [nu] at hq
  | some ha=>
  simp only [nu] at hq
  have hint:∀ (oo:Option Operand) (d z:Int),pq r g oo d=some z->(oo=none/\z=d)\/∃ y k,oo=some y/\a.eval y=.int k z:=by
   intro oo d z hz;cases oo with
   | none=>simp [pq] at hz;exact .inl ⟨rfl,hz.symm⟩
   | some y=>
     right;unfold pq at hz;simp only at hz;cases hy:aL r g y with
     | none=>simp [hy] at hz
     | some vy=>
       simp only [hy] at hz;have BS:=hc.aL hg hy;cases vy<;>simp [intOf?] at hz
       subst hz;rw [ae] at BS;exact ⟨y,_,rfl,BS.1⟩
  obtain ⟨z,s,k1,k2,k3⟩:=Uf (t:=t) (ry:=lo.map a.eval) (rz:=hi.map a.eval) he hq (hc.aL hg hx) hm bc
   (by
     rcases hint _ _ _ ql with ⟨e1,e2⟩|⟨y,k,e1,e2⟩
     ·exact .inl ⟨by simp [e1],e2⟩
     exact .inr ⟨k,by simp [e1,e2]⟩)
   (by
     rcases hint _ _ _ nu with ⟨e1,e2⟩|⟨y,k,e1,e2⟩
     ·subst e1;exact .inl ⟨rfl,e2,rfl⟩
     subst e1;exact .inr ⟨⟨k,by simp [e2]⟩,rfl⟩)
  exact fq hc hn k1 k2 (by simp [execOp,k3])
 case convert s t x=>
  simp only [bH] at hq;cases bd:P.underlying s with
  | none=>simp [bd] at hq
  | some ds=>
  cases bo:P.underlying t with
  | none=>simp [bd,bo] at hq
  | some d=>
  cases hx:aL r g x with
  | none=>cases d<;>simp [bd,bo,hx] at hq
  | some v=>
  have hr:=hc.aL hg hx;simp only [bd,bo,hx] at hq;cases d<;>try (simp at hq;done)
  case int k=>
   cases v<;>try (simp at hq;done)
   rename_i k' m;simp only at hq;rw [ae] at hr;obtain ⟨hv,_⟩:=hr;obtain ⟨z,h1,h2⟩:=BM (c:=⟨g0,live X h,w⟩) he hq;refine fq hc hn h1 h2 ?_;simp [execOp,convert,hv,cB bo,cB bd,Conv.intToInt]
  case string=>
   cases v<;>try (simp at hq;done)
   ·rename_i bs;simp only at hq;refine fq hc hn hq hr ?_;rw [ae] at hr;obtain ⟨b,hv,_⟩:=hr;simp [execOp,convert,hv,cB bo,cB bd]
   rename_i k tk xs
   match k,hq,hr with
   | 1,hq,hr=>
   simp only [uR,bd] at hq;cases ds<;>try (simp at hq;done)
   rename_i e;simp only at hq;split at hq<;>try contradiction
   rename_i Uh;obtain ⟨ns,⟨rfl,aM,hlen⟩,hK⟩:=hq;rw [ae] at hr;obtain ⟨base,cap,hv,e1,e2,e3,e4,e5,e6,e7⟩:=hr;simp only [List.length_map] at hv e1 e2;cases base with
   | none=>
     have:=e4 rfl;have:ns.length≠0:=(by simpa using aM);omega
   | some ad=>
     have hs:ad.spot=none:=e5 ad rfl (by simpa using aM);obtain ⟨f1,f2⟩:=cj.toFlat (e6 ad rfl);obtain ⟨us,g1,g2,g3⟩:=bC.load f2;have cY:(ns.map (fun n=>[AV.int .i32 n])).flatten=ns.map (AV.int .i32):=ME _ ns;rw [cY] at g1 g3
     have eQ:∀ j,ad.add j=⟨ad.block,ad.off+j,none⟩:=by
      intro j;unfold Addr.add;split
      ·rename_i h0;rw [h0];cases ad;simp_all
      rfl
     have nw:∀ j,j<ns.length->w.cell? (ad.add j)=some (.int .i32 (ns.getD j 0)):=by intro j hj;obtain ⟨u,hu,lV⟩:=g3.get j (.int .i32 ns[j]) (by simp [hj]);rw [ae] at lV;rw [eQ,(g2 j u hu).1,lV.1];simp [List.getD,hj]
     have bu:=run_convert_runes (P:=P) w s t e ad ns.length cap ns (Nat.le_refl _) bd Uh bo nw;rw [List.take_length] at bu;refine fq hc hn hK (u:=.string (runesBytes ns)) ?_ ?_
     ·rw [ae];refine ⟨_,rfl,rfl,?_⟩;have:=runesBytes_size_le ns;unfold MD aq;have e9:(runesBytes ns).data.toList.length=(runesBytes ns).size:=(by rfl);omega
     simp [execOp,hv,bu]
 case makeFunc fn first bP=>
  cases fn<;>try (simp [bH] at hq;done)
  rename_i f;simp only [bH] at hq;cases hf:first.toList with
  | cons _ _=>simp [hf] at hq
  | nil=>
  simp only [hf] at hq;cases hl:bQ r g bP.toList with
  | none=>simp [hl] at hq
  | some l=>
  simp only [hl] at hq;have tW:first=#[]:=(by simpa using hf);refine fq (u:=.func (.func f) #[] (bP.map a.eval)) hc hn hq ?_ ?_
  ·rw [ae];exact ⟨_,rfl,by rw [Ub];exact hc.bQ hg hl⟩
  simp [execOp,Instr.makeFunc,tW]
 case call cl=>
  unfold bH at hq;simp only at hq;split at hq
  ·rename_i cU;cases cK:cl.argTypes.toList with
   | nil=>simp [cK] at hq
   | cons t ts=>
   cases ts with
   | cons _ _=>simp [cK] at hq
   | nil=>
   simp only [cK] at hq;cases hl:bQ r g cl.args.toList with
   | none=>simp [hl] at hq
   | some l=>
   cases l with
   | nil=>simp [hl] at hq
   | cons x l=>
   cases l with
   | cons _ _=>simp [hl] at hq
   | nil=>
   simp only [hl] at hq;have bf:=hc.bQ hg hl;simp only [au] at bf;obtain ⟨u,rr,e,h1,rfl⟩:=bf;obtain ⟨v,s,k1,k2,k3⟩:=Ua (ty:=ty) hq h1;have jF:cl.args.map a.eval=#[u]:=by rw [<- Array.toList_inj];simpa using e
   have Ui:cl.argTypes=#[t]:=by rw [<- Array.toList_inj];simpa using cK
   exact fq hc hn k1 k2 (by simp [execOp,resolve,cU,invoke,builtin,jF,Ui,k3])
  ·rename_i cU;split at hq<;>try contradiction
   rename_i t cK;split at hq<;>try contradiction
   rename_i e bo;split at hq<;>try contradiction
   rename_i b off n' c k hl;have bf:=hc.bQ hg hl;simp only [au] at bf;obtain ⟨u,rr,e1,h1,e2⟩:=bf;subst e2;rw [ae] at h1;obtain ⟨p,x1,x2,rfl,x3,x4,x5,x6,x7⟩:=h1;have h1:cl.args.map a.eval=#[.slice (some ⟨p.block,p.off+off,none⟩) n' c]:=by rw [<- Array.toList_inj];simpa using e1
   have h2:cl.argTypes=#[t]:=by rw [<- Array.toList_inj];simpa using cK
   refine fq (u:=goInt c) hc hn hq ?_ ?_
   ·rw [ae];refine ⟨rfl,?_⟩;unfold pf at x7;simp [IntKind.has,IntKind.min,IntKind.max,IntKind.signed,IntKind.bits];omega
   simp [execOp,resolve,cU,invoke,builtin,h1,h2,Builtin.cap_,cB bo]
  ·rename_i cU;cases hl:bQ r g cl.args.toList with
   | none=>simp [hl] at hq
   | some l=>
   simp only [hl] at hq;cases l with
   | nil=>simp at hq
   | cons x l=>
   cases x<;>try (simp at hq;done)
   rename_i k m;cases k<;>try (simp at hq;done)
   simp only at hq;cases hf:foldI min m l with
   | none=>simp [hf] at hq
   | some z=>
   simp only [hf] at hq;have bf:=hc.bQ hg hl;simp only [au] at bf;obtain ⟨u,rr,e,h1,h2⟩:=bf;rw [ae] at h1;obtain ⟨rfl,hm⟩:=h1;obtain ⟨q1,q2⟩:=MU (P:=P) hf h2 hm;have jF:(cl.args.map a.eval).toList=.int .i64 m::rr:=(by simpa using e);refine fq (v:=.int .i64 z) (u:=.int .i64 z) hc hn hq (by rw [ae];exact ⟨rfl,q1⟩) ?_;simp only [execOp,resolve,cU,Sem.run_bind,Sem.run_pure,Result.andThen,invoke,builtin,Builtin.min_,jF,q2]
  ·rename_i cU;cases hl:bQ r g cl.args.toList with
   | none=>simp [hl] at hq
   | some l=>
   simp only [hl] at hq;cases l with
   | nil=>simp at hq
   | cons x l=>
   cases x<;>try (simp at hq;done)
   rename_i k m;cases k<;>try (simp at hq;done)
   simp only at hq;cases hf:foldI max m l with
   | none=>simp [hf] at hq
   | some z=>
   simp only [hf] at hq;have bf:=hc.bQ hg hl;simp only [au] at bf;obtain ⟨u,rr,e,h1,h2⟩:=bf;rw [ae] at h1;obtain ⟨rfl,hm⟩:=h1;obtain ⟨q1,q2⟩:=MV (P:=P) hf h2 hm;have jF:(cl.args.map a.eval).toList=.int .i64 m::rr:=(by simpa using e);refine fq (v:=.int .i64 z) (u:=.int .i64 z) hc hn hq (by rw [ae];exact ⟨rfl,q1⟩) ?_;simp only [execOp,resolve,cU,Sem.run_bind,Sem.run_pure,Result.andThen,invoke,builtin,Builtin.max_,jF,q2]
  ·rename_i f cU;cases hl:bQ r g cl.args.toList with
   | none=>simp [hl] at hq
   | some l=>
   simp only [hl] at hq;obtain ⟨v,hv,hk⟩:=hq;have hv:=qj he hv
   have bu:(execOp a.eval ⟨dst,.call cl,ty,pos,gK,gd⟩).run P w=(callFunc f (cl.args.map a.eval++#[])).run P w:=
    EP rfl ⟨_,cU,rfl⟩
   refine EN (us:=cl.args.map a.eval) hv hc.cw (by simpa using hc.bQ hg hl) (by simpa using bu) (fun v' h' g' u w' hR c1 c2 c3=>?_);obtain ⟨rfl,rfl⟩:=hR;exact hn _ g' u w' hk c1 c2 c3
  ·rename_i t cU;cases hx:aL r g (.tmp t) with
   | none=>simp [hx] at hq
   | some x=>
   cases x<;>try (simp [hx] at hq;done)
   rename_i f bP;simp only [hx] at hq;cases hl:bQ r g cl.args.toList with
   | none=>simp [hl] at hq
   | some l=>
   simp only [hl] at hq;obtain ⟨v,hv,hk⟩:=hq;have hv:=qj he hv;have hr:=hc.aL hg hx;rw [ae] at hr;obtain ⟨us,yn,bd⟩:=hr
   have bu:(execOp a.eval ⟨dst,.call cl,ty,pos,gK,gd⟩).run P w=(callFunc f (cl.args.map a.eval++us)).run P w:=
    EP rfl ⟨_,cU,yn⟩
   refine EN hv hc.cw (by simpa using au.append (hc.bQ hg hl) bd) bu (fun v' h' g' u w' hR c1 c2 c3=>?_);obtain ⟨rfl,rfl⟩:=hR;exact hn _ g' u w' hk c1 c2 c3
  exact hq.elim
 case lookup t x i ok=>
  simp only [bH] at hq;split at hq<;>try contradiction
  rename_i kt et bc;split at hq<;>try contradiction
  rename_i k hk;split at hq<;>try contradiction
  rename_i z hz;have rB:=hc.aL hg hk;split at hq<;>try contradiction
  ·rename_i b hx;obtain ⟨es,v,f,hm,sH,hK⟩:=hq;obtain ⟨h1,h2⟩:=qj he sH;have gw:=hc.aL hg hx;rw [ae] at gw;obtain ⟨p,hp,hv⟩:=gw;obtain ⟨p',cl,aj,o1,o2,o3,o4,o5⟩:=hc.cw.obj b _ hm;simp only at o1 o3;rw [hp] at o1;cases o1
   obtain ⟨s,r1,r2⟩:=TY (P:=P) (c:=⟨g0,live X h,w⟩) (ok:=ok) bc h1 rB hz o3 o4 h2;exact fq hc hn hK r2 (by simp only [execOp,hv,Sem.run_bind,r1,Result.andThen_ok,Sem.run_pure])
  rename_i hx;obtain ⟨sH,hK⟩:=hq;have h1:=qj he sH;have gw:=hc.aL hg hx;rw [ae] at gw;obtain ⟨s,r1,r2⟩:=TZ (P:=P) (c:=⟨g0,live X h,w⟩) (ok:=ok) bc h1 rB hz;exact fq hc hn hK r2 (by simp only [execOp,gw,Sem.run_bind,r1,Result.andThen_ok,Sem.run_pure])
 all_goals (simp [bH] at hq)
end Go.Abs
