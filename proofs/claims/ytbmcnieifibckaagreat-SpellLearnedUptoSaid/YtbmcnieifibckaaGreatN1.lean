/- What is proved: small laws for the walks of this seat, and contracts of its functions. No condition but those each theorem names. -/
import Derived.Calls
import Derived.Orders
import Derived.Laws.Sem
import GoSem.Claims
import GoSem.ClaimData
import Derived.Laws.Cover4
import Derived.ArgAppend
import Derived.Laws.Rows
import Derived.Laws.MakeOwn
import Derived.Laws.Entries
import Derived.Laws.Cells
import Derived.Laws.Strings
import Derived.IntWalk
import Derived.ChangeKeysEq
import Derived.Laws.StructEq
import Derived.Laws.Tables
import Derived.Laws.Slices
import Derived.Laws.Strings2
import Derived.Great.BuildSlice
/-
 The abstract fS,part A: abstract values,own objects,and xV it is that a value in memory U1 for an abstract one.
-/
namespace Go.Abs
open Go
inductive AV where
 | unit
 | Ih
 | bool (b:Bool)
 | int (k:IntKind) (n:Int)
 | str (s:List UInt8)
 | aT
 | sl (k:Nat) (t:Option Nat) (xs:List (List AV))
 | wx (k:Nat)
 | gZ
 | aQ (b:Nat) (off len k:Nat)
 | eM (b:Nat) (off len cap k:Nat)
 | au (cs:List AV)
 | bj (b:Nat) (off:Nat)
 | kA
 | omap (b:Nat)
 | BN
 | fn (f:FuncId) (bF:List AV)
 | ES
 | agg (cs:List AV)
 | aH (vs:List AV)
 | tP (b:Nat)
inductive Ob where
 | vec (cs:List AV)
 | tok
 | map (es:List (AV × AV))
 | uP (es:List (AV × AV)) (bs:List Nat) (cl:Nat)
 | iter (m cl:Nat) (seen:List Nat)
 | oA (s:List UInt8) (pos:Nat)
abbrev af:=List (Nat × Ob)
def keys (h:af):List Nat:=h.map (·.1)
def ql:AV->Option (List AV)
 | .agg cs=>some cs
 | .aH _=>none
 | .unit=>none
 | v=>some [v]
def aw:Nat:=140737488355328
def pb:Nat:=9223372036854775807
structure Gh where
 pl:Nat->Option Addr
 ow:Nat->Option (Nat × Nat)
structure Cx where
 g:Gh
 live:Nat->Prop
 w:World
def Cx.fr (c:Cx) (b o:Nat):Prop:=∀ k s,c.g.ow b=some (k,s)->c.live k->o<s
def World.qm (w:World) (b n:Nat):Prop:=∃ cs t f,w.heap[b]?=some (.cells cs t f)/\n<=cs.size
mutual
def aa (c:Cx):AV->Value->Prop
 | .unit,_=>True
 | .Ih,v=>v.oneCell'=true
 | .bool b,v=>v=.bool b
 | .int k n,v=>v=.int k n/\k.has n
 | .str s,v=>∃ b:ByteArray,v=.string b/\b.data.toList=s/\s.length<=aw
 | .aT,v=>v=.slice none 0 0
 | .sl k t xs,v=>∃ base cap,v=.slice base xs.length cap/\xs.length<=cap/\xs.length<=aw/\0<k /\
    (base=none->cap=0) /\
    (∀ a,base=some a->xs≠[]->a.spot=none) /\
    (∀ a,base=some a->cm c k xs a.block a.off) /\
    (∀ q,t=some q->cap=xs.length\/∃ a,base=some a/\a.spot=none/\c.g.pl q=some ⟨a.block,a.off+xs.length*k,none⟩/\World.qm c.w a.block (a.off+cap*k))
 | .wx k,v=>∃ a cap,v=.slice (some a) 0 cap/\0<k
 | .gZ,v=>v=.slice none 0 0
 | .aQ b off len k,v=>∃ p cap o',c.g.pl b=some p/\p.spot=none/\v=.slice (some ⟨p.block,p.off+o',none⟩) len cap/\len<=cap/\len<=aw/\0<k/\World.qm c.w p.block (p.off+o'+cap*k)/\(0<cap->o'=off)/\cap<=pb
 | .eM b off len cap k,v=>∃ p,c.g.pl b=some p/\p.spot=none/\v=.slice (some ⟨p.block,p.off+off,none⟩) len cap/\len<=cap/\len<=aw/\0<k/\World.qm c.w p.block (p.off+off+cap*k)/\cap<=pb
 | .au cs,v=>∃ b o,v=.pointer (some ⟨b,o,none⟩)/\bA c cs b o
 | .bj b off,v=>∃ p,c.g.pl b=some p/\p.spot=none/\v=.pointer (some ⟨p.block,p.off+off,none⟩)
 | .kA,v=>v=.pointer none
 | .omap b,v=>∃ p,c.g.pl b=some p/\v=.map (some p.block)
 | .BN,v=>v=.map none
 | .fn f bF,v=>∃ us,v=.func (.func f) #[] us/\ax c bF us.toList
 | .ES,v=>v=.nilFunc
 | .agg cs,v=>∃ us,v=.agg us/\(∀ u∈us,u.oneCell'=true)/\ax c cs us.toList
 | .aH vs,v=>∃ us,v=.tuple us/\ax c vs us.toList
 | .tP b,v=>∃ p,c.g.pl b=some p/\v=.pointer (some ⟨p.block,0,none⟩)
def ax (c:Cx):List AV->List Value->Prop
 | [],us=>us=[]
 | x::xs,us=>∃ u r,us=u::r/\aa c x u/\ax c xs r
def bA (c:Cx):List AV->Nat->Nat->Prop
 | [],_,_=>True
 | x::xs,b,o=>(∃ u,c.w.cell? ⟨b,o,none⟩=some u/\u.oneCell'=true/\c.fr b o/\aa c x u)/\bA c xs b (o+1)
def cm (c:Cx) (k:Nat):List (List AV)->Nat->Nat->Prop
 | [],_,_=>True
 | x::xs,b,o=>(x.length=k/\bA c x b o)/\cm c k xs b (o+k)
end
structure Cx.Le (c c':Cx):Prop where
 pl:∀ k p,c.g.pl k=some p->c'.g.pl k=some p
 cell:∀ b o u,c.w.cell? ⟨b,o,none⟩=some u->c.fr b o->c'.w.cell? ⟨b,o,none⟩=some u/\c'.fr b o
 has:∀ b n,World.qm c.w b n->World.qm c'.w b n
theorem Cx.Le.refl (c:Cx):Cx.Le c c:=⟨fun _ _ h=>h,fun _ _ _ h h'=>⟨h,h'⟩,fun _ _ h=>h⟩
theorem Cx.Le.trans {a b c:Cx} (h:Cx.Le a b) (k:Cx.Le b c):Cx.Le a c:=
 ⟨fun x p e=>k.pl x p (h.pl x p e),fun x o u e f=>let ⟨e',f'⟩:=h.cell x o u e f;k.cell x o u e' f',fun x n e=>k.has x n (h.has x n e)⟩
mutual
theorem aa.mono {c c':Cx} (hc:Cx.Le c c'):∀ (x:AV) (v:Value),aa c x v->aa c' x v
 | .unit,_,_=>by simp [aa]
 | .Ih,v,h=>by simpa [aa] using h
 | .bool b,v,h=>by simpa [aa] using h
 | .int k n,v,h=>by simpa [aa] using h
 | .str s,v,h=>by simpa [aa] using h
 | .aT,v,h=>by simpa [aa] using h
 | .kA,v,h=>by simpa [aa] using h
 | .wx k,v,h=>by simpa [aa] using h
 | .gZ,v,h=>by simpa [aa] using h
 | .BN,v,h=>by simpa [aa] using h
 | .ES,v,h=>by simpa [aa] using h
 | .sl k t xs,v,h=>by
   simp only [aa] at h ⊢;obtain ⟨base,cap,hv,h1,h2,h3,h4,h5,h6,h7⟩:=h;refine ⟨base,cap,hv,h1,h2,h3,h4,h5,fun a ha=>cm.mono hc k xs _ _ (h6 a ha),fun q hq=>?_⟩;rcases h7 q hq with h7|⟨a,ha,hs,hp,hh⟩
   ·exact .inl h7
   exact .inr ⟨a,ha,hs,hc.pl _ _ hp,hc.has _ _ hh⟩
 | .aQ b off len k,v,h=>by simp only [aa] at h ⊢;obtain ⟨p,cap,o',hp,hs,hv,h1,h2,h3,h4,h5⟩:=h;exact ⟨p,cap,o',hc.pl _ _ hp,hs,hv,h1,h2,h3,hc.has _ _ h4,h5⟩
 | .eM b off len cap k,v,h=>by simp only [aa] at h ⊢;obtain ⟨p,hp,hs,hv,h1,h2,h3,h4,h5⟩:=h;exact ⟨p,hc.pl _ _ hp,hs,hv,h1,h2,h3,hc.has _ _ h4,h5⟩
 | .au cs,v,h=>by simp only [aa] at h ⊢;obtain ⟨b,o,hv,hr⟩:=h;exact ⟨b,o,hv,bA.mono hc cs _ _ hr⟩
 | .bj b off,v,h=>by simp only [aa] at h ⊢;obtain ⟨p,hp,r⟩:=h;exact ⟨p,hc.pl _ _ hp,r⟩
 | .omap b,v,h=>by simp only [aa] at h ⊢;obtain ⟨p,hp,r⟩:=h;exact ⟨p,hc.pl _ _ hp,r⟩
 | .tP b,v,h=>by simp only [aa] at h ⊢;obtain ⟨p,hp,r⟩:=h;exact ⟨p,hc.pl _ _ hp,r⟩
 | .fn f bF,v,h=>by simp only [aa] at h ⊢;obtain ⟨us,hv,hr⟩:=h;exact ⟨us,hv,ax.mono hc bF _ hr⟩
 | .agg cs,v,h=>by simp only [aa] at h ⊢;obtain ⟨us,hv,h1,hr⟩:=h;exact ⟨us,hv,h1,ax.mono hc cs _ hr⟩
 | .aH cs,v,h=>by simp only [aa] at h ⊢;obtain ⟨us,hv,hr⟩:=h;exact ⟨us,hv,ax.mono hc cs _ hr⟩
theorem ax.mono {c c':Cx} (hc:Cx.Le c c'):∀ (xs:List AV) (us:List Value),ax c xs us->ax c' xs us
 | [],us,h=>by simpa [ax] using h
 | x::xs,us,h=>by simp only [ax] at h ⊢;obtain ⟨u,r,hu,h1,h2⟩:=h;exact ⟨u,r,hu,aa.mono hc x u h1,ax.mono hc xs r h2⟩
theorem bA.mono {c c':Cx} (hc:Cx.Le c c'):∀ (xs:List AV) (b o:Nat),bA c xs b o->bA c' xs b o
 | [],b,o,h=>by simp [bA]
 | x::xs,b,o,h=>by simp only [bA] at h ⊢;obtain ⟨⟨u,h1,h2,h3,h4⟩,h5⟩:=h;obtain ⟨e,f⟩:=hc.cell _ _ _ h1 h3;exact ⟨⟨u,e,h2,f,aa.mono hc x u h4⟩,bA.mono hc xs _ _ h5⟩
theorem cm.mono {c c':Cx} (hc:Cx.Le c c') (k:Nat):∀ (xs:List (List AV)) (b o:Nat),cm c k xs b o->cm c' k xs b o
 | [],b,o,h=>by simp [cm]
 | x::xs,b,o,h=>by simp only [cm] at h ⊢;exact ⟨⟨h.1.1,bA.mono hc x _ _ h.1.2⟩,cm.mono hc k xs _ _ h.2⟩
end
theorem aa.BO {c:Cx} {b off len k:Nat} {v:Value} (h:aa c (.aQ b off len k) v) (hl:0<len):∃ p cap,c.g.pl b=some p/\p.spot=none/\v=.slice (some ⟨p.block,p.off+off,none⟩) len cap/\len<=cap/\len<=aw/\0<k /\
  World.qm c.w p.block (p.off+off+cap*k)/\cap<=pb:=by
 simp only [aa] at h;obtain ⟨p,cap,o',h1,h2,h3,h4,h5,h6,h7,h8,h9⟩:=h;have:=h8 (by omega);subst this;exact ⟨p,cap,h1,h2,h3,h4,h5,h6,h7,h9⟩
end Go.Abs
/-
 The abstract fS,part B: own objects,the abstract state,and the BP: a U2 U3 Nd a Vb code,made to be reduced.
-/
set_option linter.unusedVariables false
namespace Go.Abs
open Go
def eN (c:Cx):List (AV × AV)->List MapEntry->Prop
 | [],es=>es=[]
 | x::xs,es=>∃ e r,es=e::r/\aa c x.1 e.key/\aa c x.2 e.val/\eN c xs r
def oB (c:Cx) (k:Nat):Ob->Prop
 | .vec cs=>∃ p cc t,c.g.pl k=some p/\p.spot=none/\c.g.ow p.block=some (k,0)/\c.w.heap[p.block]?=some (.cells cc t (0,0)) /\
    p.off+cs.length<=cc.size/\∀ i x,cs[i]?=some x->∃ u,cc[p.off+i]?=some u/\u.oneCell'=true/\aa c x u
 | .tok=>∀ p,c.g.pl k=some p->p.spot=none/\c.g.ow p.block=some (k,p.off)/\∃ cc t,c.w.heap[p.block]?=some (.cells cc t (0,0))
 | .map es=>∃ p cl al,c.g.pl k=some p/\c.g.ow p.block=some (k,0)/\c.w.heap[p.block]?=some (.map al cl)/\eN c es al.toList /\
    (∀ x∈al.toList,x.born<cl)/\(al.toList.map (·.born)).Nodup
 | .uP es bs cl=>∃ p al,c.g.pl k=some p/\c.g.ow p.block=some (k,0)/\c.w.heap[p.block]?=some (.map al cl)/\eN c es al.toList /\
    (∀ x∈al.toList,x.born<cl)/\(al.toList.map (·.born)).Nodup/\al.toList.map (·.born)=bs
 | .iter m cl seen=>∃ p pm sa,c.g.pl k=some p/\c.g.ow p.block=some (k,0)/\c.w.heap[p.block]?=some (.mapIter (some pm.block) cl sa cl)/\c.g.pl m=some pm/\sa.toList=seen
 | .oA s pos=>∃ p b,c.g.pl k=some p/\c.g.ow p.block=some (k,0)/\c.w.heap[p.block]?=some (.stringIter b pos)/\b.data.toList=s/\s.length<=aw
def live (X:Nat->Prop) (h:af):Nat->Prop:=fun k=>X k\/k∈keys h
structure CW (X:Nat->Prop) (g:Gh) (h:af) (w:World):Prop where
 own:∀ b k s,g.ow b=some (k,s)->b<w.heap.size
 bound:∃ N,∀ k,(X k\/k∈keys h\/g.pl k≠none\/∃ b s,g.ow b=some (k,s))->k<N
 nodup:(keys h).Nodup
 sep:∀ k,k∈keys h->¬ X k
 obj:∀ k o,(k,o)∈h->oB ⟨g,live X h,w⟩ k o
structure Step (X:Nat->Prop) (g:Gh) (h:af) (w:World) (g':Gh) (h':af) (w':World):Prop where
 os:w'.os=w.os
 xW:w'.tape=w.tape/\w.drawn<=w'.drawn
 output:w'.output=w.output
 size:w.heap.size<=w'.heap.size
 pl:∀ k p,g.pl k=some p->g'.pl k=some p
 Aa:∀ b k s,g.ow b=some (k,s)->X k->g'.ow b=some (k,s)
 xX:∀ b k s,g'.ow b=some (k,s)->X k->g.ow b=some (k,s)
 BQ:∀ k,X k->g.pl k=none->g'.pl k=none
 qo:∀ b,b<w.heap.size->(∀ k s,g.ow b=some (k,s)->k ∉ keys h)->w'.heap[b]?=w.heap[b]?/\∀ k s,g'.ow b=some (k,s)->k ∉ keys h'
 Ab:∀ b k s,g.ow b=some (k,s)->k∈keys h->∀ cc t f,w.heap[b]?=some (.cells cc t f) ->
  ∃ eE,w'.heap[b]?=some (.cells eE t f)/\eE.size=cc.size/\∀ o,o<s->eE[o]?=cc[o]?
 xY:∀ b k s,g.ow b=some (k,s)->k∈keys h->∀ k' s',g'.ow b=some (k',s')->live X h' k'->s<=s'
theorem Step.refl (X:Nat->Prop) (g:Gh) (h:af) (w:World):Step X g h w g h w:=
 ⟨rfl,⟨rfl,Nat.le_refl _⟩,rfl,Nat.le_refl _,fun _ _ e=>e,fun _ _ _ e _=>e,fun _ _ _ e _=>e,fun _ _ e=>e,fun _ _ e=>⟨rfl,e⟩,
   fun _ _ _ _ _ cc _ _ e=>⟨cc,e,rfl,fun _ _=>rfl⟩,fun _ _ _ e _ _ _ e' _=>by rw [e] at e';cases e';exact Nat.le_refl _⟩
theorem Step.trans {X:Nat->Prop} {g g1 g2:Gh} {h h1 h2:af} {w w1 w2:World} (own:∀ b k s,g.ow b=some (k,s)->b<w.heap.size)
  (s1:Step X g h w g1 h1 w1) (s2:Step X g1 h1 w1 g2 h2 w2):Step X g h w g2 h2 w2:=by
 refine ⟨s2.os.trans s1.os,⟨s2.xW.1.trans s1.xW.1,Nat.le_trans s1.xW.2 s2.xW.2⟩,s2.output.trans s1.output,Nat.le_trans s1.size s2.size,fun k p e=>s2.pl k p (s1.pl k p e),
  fun b k s e x=>s2.Aa b k s (s1.Aa b k s e x) x,fun b k s e x=>s1.xX b k s (s2.xX b k s e x) x,fun k x e=>s2.BQ k x (s1.BQ k x e),?_,?_,?_⟩
 ·intro b hb hn;obtain ⟨e1,n1⟩:=s1.qo b hb hn;obtain ⟨e2,n2⟩:=s2.qo b (Nat.lt_of_lt_of_le hb s1.size) n1;exact ⟨e2.trans e1,n2⟩
 ·intro b k s ho hk cc t f bG;obtain ⟨Ac,e1,z1,p1⟩:=s1.Ab b k s ho hk cc t f bG;have hb:b<w1.heap.size:=Nat.lt_of_lt_of_le (own b k s ho) s1.size;by_cases hm:∃ k1 qp,g1.ow b=some (k1,qp)/\k1∈keys h1
  ·obtain ⟨k1,qp,sn,cX⟩:=hm;obtain ⟨sq,e2,z2,p2⟩:=s2.Ab b k1 qp sn cX Ac t f e1;have hle:=s1.xY b k s ho hk k1 qp sn (.inr cX);exact ⟨sq,e2,z2.trans z1,fun o h=>(p2 o (by omega)).trans (p1 o h)⟩
  obtain ⟨e2,_⟩:=s2.qo b hb (fun k1 qp e hk=>hm ⟨k1,qp,e,hk⟩);exact ⟨Ac,e2.trans e1,z1,p1⟩
 intro b k s ho hk k2 ET cy mL;have hb:b<w1.heap.size:=Nat.lt_of_lt_of_le (own b k s ho) s1.size;by_cases hm:∃ k1 qp,g1.ow b=some (k1,qp)/\k1∈keys h1
 ·obtain ⟨k1,qp,sn,cX⟩:=hm;have h1:=s1.xY b k s ho hk k1 qp sn (.inr cX);have h2:=s2.xY b k1 qp sn cX k2 ET cy mL;omega
 obtain ⟨_,n2⟩:=s2.qo b hb (fun k1 qp e hk=>hm ⟨k1,qp,e,hk⟩);rcases mL with hx|bw
 ·exact s1.xY b k s ho hk k2 ET (s2.xX b k2 ET cy hx) (.inl hx)
 exact absurd bw (n2 k2 ET cy)
theorem Step.le {X:Nat->Prop} {g g':Gh} {h h':af} {w w':World} (s:Step X g h w g' h' w') :
  Cx.Le ⟨g,live X h,w⟩ ⟨g',live X h',w'⟩:=by
 refine ⟨s.pl,?_,?_⟩
 ·intro b o u hu hf;simp only [World.cell?] at hu
  have hb:b<w.heap.size:=by
   cases hh:w.heap[b]? with
   | none=>simp [hh] at hu
   | some x=>exact (Array.getElem?_eq_some_iff.1 hh).1
  by_cases hm:∃ k s',g.ow b=some (k,s')/\k∈keys h
  ·obtain ⟨k,s',ho,hk⟩:=hm;have aI:o<s':=hf k s' ho (.inr hk);cases hh:w.heap[b]? with
   | none=>simp [hh] at hu
   | some x=>
     cases x with
     | cells cc t f=>
       obtain ⟨eE,e,z,p⟩:=s.Ab b k s' ho hk cc t f hh;refine ⟨?_,fun k' xZ bH fF=>Nat.lt_of_lt_of_le aI (s.xY b k s' ho hk k' xZ bH fF)⟩;simp only [World.cell?,e];simp only [hh] at hu;simpa [p o aI] using hu
     | _=>simp [hh] at hu
  obtain ⟨e,n⟩:=s.qo b hb (fun k s' ho hk=>hm ⟨k,s',ho,hk⟩);refine ⟨by simp only [World.cell?,e];exact hu,fun k' xZ bH fF=>?_⟩;rcases fF with hx|bq
  ·exact hf k' xZ (s.xX b k' xZ bH hx) (.inl hx)
  exact absurd bq (n k' xZ bH)
 rintro b n ⟨cc,t,f,bG,hn⟩;have hb:b<w.heap.size:=(Array.getElem?_eq_some_iff.1 bG).1;by_cases hm:∃ k s',g.ow b=some (k,s')/\k∈keys h
 ·obtain ⟨k,s',ho,hk⟩:=hm;obtain ⟨eE,e,z,_⟩:=s.Ab b k s' ho hk cc t f bG;exact ⟨eE,t,f,e,by omega⟩
 obtain ⟨e,_⟩:=s.qo b hb (fun k s' ho hk=>hm ⟨k,s',ho,hk⟩);exact ⟨cc,t,f,e.trans bG,hn⟩
abbrev G:=List (Nat × Bool × Bool)
abbrev aC:=List (Nat × G × AV)
def bp:aC->Nat->Option (G × AV)
 | [],_=>none
 | (t,x)::r,n=>match Nat.beq t n with
   | true=>some x
   | false=>bp r n
def EU:Bool->Bool->Bool
 | true,true=>true
 | false,false=>true
 | _,_=>false
def BR:G->Nat->Bool->Bool
 | [],_,_=>false
 | (t,_,w)::r,n,w'=>match Nat.beq t n with
   | true=>(match EU w w' with
     | true=>true
     | false=>BR r n w')
   | false=>BR r n w'
def EV:G->G->Bool
 | [],_=>true
 | (t,_,w)::r,g=>match BR g t w with
   | true=>EV r g
   | false=>false
def gP:G->Prop->Prop
 | [],p=>p
 | (_,b,w)::r,p=>b=w->gP r p
def Ii (k:IntKind) (n:Int):Bool:=
 match k,n with
 | .i64,n=>Nat.ble n.natAbs 4611686018427387904
 | .i32,n=>Nat.ble n.natAbs 1073741824
 | .u8,.ofNat n=>Nat.ble n 255
 | .u32,.ofNat n=>Nat.ble n 4294967295
 | .u64,.ofNat n=>Nat.ble n 9223372036854775807
 | _,_=>false
def oC:Value->Option AV
 | .bool b=>some (.bool b)
 | .int k n=>(match Ii k n with|true=>some (.int k n)|false=>none)
 | .string s=>(match Nat.ble s.data.toList.length 65536 with|true=>some (.str s.data.toList)|false=>none)
 | .pointer none=>some .kA
 | .slice none 0 0=>some .aT
 | .map none=>some .BN
 | .nilFunc=>some .ES
 | _=>none
def sr:List Value->Option (List AV)
 | []=>some []
 | v::r=>match oC v with
   | some a=>(match sr r with
     | some b=>some (a::b)
     | none=>none)
   | none=>none
def jc (P:Program) (t:TypeId):Option (List AV):=
 match P.info? t with
 | some i=>match i.zero with
   | some v=>sr v.cells.toList
   | none=>none
 | none=>none
def nF (P:Program) (t:TypeId):Option Bool:=
 match P.underlying t with
 | some (.struct _)=>some true
 | some (.array _ _)=>some true
 | some _=>some false
 | none=>none
def aK (r:aC) (g:G):Operand->Option AV
 | .tmp t=>match bp r t with
   | some (g',v)=>match EV g' g with
     | true=>some v
     | false=>none
   | none=>none
 | .const v=>oC v
 | .func f=>some (.fn f [])
 | .global _=>none
def bS (r:aC) (g:G):List Operand->Option (List AV)
 | []=>some []
 | x::xs=>match aK r g x with
   | some v=>(match bS r g xs with
     | some vs=>some (v::vs)
     | none=>none)
   | none=>none
def takeN:Nat->List AV->Option (List AV)
 | 0,_=>some []
 | _+1,[]=>none
 | n+1,c::cs=>match takeN n cs with
   | some l=>some (c::l)
   | none=>none
def jd:Nat->List AV->Option (List AV)
 | 0,cs=>some cs
 | _+1,[]=>none
 | n+1,_::cs=>jd n cs
def arith (g:G) (k:IntKind) (n:Int) (K:AV->Prop):Prop:=
 match k with
 | .i64=>gP g (-9223372036854775808<=n/\n<=9223372036854775807)/\K (.int .i64 n)
 | .i32=>gP g (-2147483648<=n/\n<=2147483647)/\K (.int .i32 n)
 | k=>K (.int k (k.wrap n))
def Ij:IntKind->IntKind->Bool
 | .i8,.i8=>true
 | .i16,.i16=>true
 | .i32,.i32=>true
 | .i64,.i64=>true
 | .u8,.u8=>true
 | .u16,.u16=>true
 | .u32,.u32=>true
 | .u64,.u64=>true
 | _,_=>false
def qq (P:Program) (t:TypeId) (x y:AV):Option Bool:=
 match P.underlying t,x,y with
 | some (.int _),.int k a,.int k' b=>(match Ij k k' with|true=>some (decide (a=b))|false=>none)
 | some .string,.str a,.str b=>some (decide (a=b))
 | some .bool,.bool a,.bool b=>some (decide (a=b))
 | _,_,_=>none
def oD (P:Program):Nat->List Field->List AV->List AV->Option Bool
 | _,[],[],[]=>some true
 | i,f::fs,x::xs,y::ys=>match Nat.beq f.offset i with
   | true=>(match qq P f.type x y with
     | some b=>(match oD P (i+1) fs xs ys with
       | some c=>some (b&&c)
       | none=>none)
     | none=>none)
   | false=>none
 | _,_,_,_=>none
def rm (P:Program) (e:TypeId):List AV->List AV->Option Bool
 | [],[]=>some true
 | x::xs,y::ys=>match qq P e x y with
   | some b=>(match rm P e xs ys with
     | some c=>some (b&&c)
     | none=>none)
   | none=>none
 | _,_=>none
def jK (P:Program) (t:TypeId) (x y:AV):Option Bool:=
 match P.underlying t with
 | some (.struct fs)=>(match x,y with
   | .agg xs,.agg ys=>oD P 0 fs.toList xs ys
   | _,_=>none)
 | some (.array n e)=>(match x,y with
   | .agg xs,.agg ys=>(match Nat.beq xs.length n,Nat.beq (P.cellsOf e) 1,P.info? e with
     | true,true,some _=>rm P e xs ys
     | _,_,_=>none)
   | _,_=>none)
 | some _=>qq P t x y
 | none=>none
def qt (P:Program) (t:TypeId):Bool:=
 match P.underlying t with
 | some (.struct fs)=>fs.toList.all (fun f=>!(f.name == "_"))&&!P.stoodInHeld t&&!P.eqGuardType P.depth t
 | some (.array _ _)=>!P.eqGuardType P.depth t
 | some _=>true
 | none=>false
def qw (k k':IntKind) (p:Prop):Prop:=
 match k,k' with
 | .i8,.i8=>p
 | .i16,.i16=>p
 | .i32,.i32=>p
 | .i64,.i64=>p
 | .u8,.u8=>p
 | .u16,.u16=>p
 | .u32,.u32=>p
 | .u64,.u64=>p
 | _,_=>False
theorem pd {k k':IntKind} {p:Prop}:qw k k' p↔(k=k'/\p):=by cases k<;>cases k'<;>simp [qw]
def tQ (P:Program) (g:G) (t:TypeId) (op:BinOp) (x y:AV) (K:AV->Prop):Prop:=
 match op,x,y with
 | .add,.int k a,.int k' b=>qw k k' (arith g k (a+b) K)
 | .sub,.int k a,.int k' b=>qw k k' (arith g k (a - b) K)
 | .mul,.int k a,.int k' b=>qw k k' (arith g k (a*b) K)
 | .quo,.int k a,.int k' b=>qw k k' (gP g (b≠0)/\arith g k (Int.tdiv a b) K)
 | .rem,.int k a,.int k' b=>qw k k' (gP g (b≠0/\k.has (Int.tmod a b))/\K (.int k (Int.tmod a b)))
 | .lss,.int k a,.int k' b=>qw k k' (K (.bool (decide (a<b))))
 | .leq,.int k a,.int k' b=>qw k k' (K (.bool (decide (a<=b))))
 | .gtr,.int k a,.int k' b=>qw k k' (K (.bool (decide (b<a))))
 | .geq,.int k a,.int k' b=>qw k k' (K (.bool (decide (b<=a))))
 | .eql,.int k a,.int k' b=>qw k k' (K (.bool (decide (a=b))))
 | .neq,.int k a,.int k' b=>qw k k' (K (.bool (!decide (a=b))))
 | .eql,.bool a,.bool b=>(match P.underlying t with|some .bool=>K (.bool (decide (a=b)))|_=>False)
 | .neq,.bool a,.bool b=>(match P.underlying t with|some .bool=>K (.bool (!decide (a=b)))|_=>False)
 | .eql,.str a,.str b=>K (.bool (decide (a=b)))
 | .neq,.str a,.str b=>K (.bool (!decide (a=b)))
 | .lss,.str a,.str b=>K (.bool (Op.bytesLess a b))
 | .add,.str a,.str b=>gP g ((a++b).length<=aw)/\K (.str (a++b))
 | .eql,.agg xs,.agg ys=>(match jK P t (.agg xs) (.agg ys) with|some b=>qt P t=true/\K (.bool b)|none=>False)
 | .neq,.agg xs,.agg ys=>(match jK P t (.agg xs) (.agg ys) with|some b=>qt P t=true/\K (.bool (!b))|none=>False)
 | .eql,.aT,.aT=>(match P.underlying t with|some (.slice _)=>K (.bool true)|_=>False)
 | .neq,.aT,.aT=>(match P.underlying t with|some (.slice _)=>K (.bool false)|_=>False)
 | .eql,.wx _,.aT=>(match P.underlying t with|some (.slice _)=>K (.bool false)|_=>False)
 | .neq,.wx _,.aT=>(match P.underlying t with|some (.slice _)=>K (.bool true)|_=>False)
 | .eql,.sl _ _ xs,.aT=>(match P.underlying t with|some (.slice _)=>gP g (xs≠[])/\K (.bool false)|_=>False)
 | .neq,.sl _ _ xs,.aT=>(match P.underlying t with|some (.slice _)=>gP g (xs≠[])/\K (.bool true)|_=>False)
 | .gtr,.str a,.str b=>K (.bool (!Op.bytesLess a b&&!decide (a=b)))
 | .eql,.aQ _ _ _ _,.aT=>(match P.underlying t with|some (.slice _)=>K (.bool false)|_=>False)
 | .eql,.au _,.kA=>(match P.underlying t with|some (.pointer _)=>K (.bool false)|_=>False)
 | .neq,.au _,.kA=>(match P.underlying t with|some (.pointer _)=>K (.bool true)|_=>False)
 | .eql,.kA,.kA=>(match P.underlying t with|some (.pointer _)=>K (.bool true)|_=>False)
 | .neq,.kA,.kA=>(match P.underlying t with|some (.pointer _)=>K (.bool false)|_=>False)
 | .shr,.int k a,.int k' (.ofNat 1)=>gP g ((k=.u64/\k'=.u64)/\0<=a/\a<9223372036854775808)/\K (.int .u64 (a / 2))
 | .shr,.int k a,.int k' b=>gP g ((k=.u64/\k'=.u64)/\(0<=a/\a<4294967296)/\b=32)/\K (.int .u64 0)
 | .and,.int k a,.int k' b=>gP g ((k=.u64/\k'=.u64)/\(0<=a/\a<4294967296)/\b=4294967295)/\K (.int .u64 a)
 | _,_,_=>False
def rn (P:Program) (t:TypeId) (k:AV):List (AV × AV)->Option (Option AV)
 | []=>some none
 | (x,v)::es=>match jK P t k x with
   | some true=>some (some v)
   | some false=>rn P t k es
   | none=>none
def pe (P:Program) (t:TypeId) (k v:AV):List (AV × AV)->List (AV × AV)
 | []=>[(k,v)]
 | (x,u)::es=>match jK P t k x with
   | some true=>(k,v)::es
   | _=>(x,u)::pe P t k v es
def ss (P:Program) (t:TypeId) (k:AV):Prop:=qt P t=true/\jK P t k k=some true
def zeroV (P:Program) (t:TypeId):Option AV:=
 match P.info? t with
 | some i=>(match i.zero with
   | some (.agg us)=>(match sr us.toList with
     | some l=>some (.agg l)
     | none=>none)
   | some v=>oC v
   | none=>none)
 | none=>none
def ya (P:Program) (t:TypeId) (k:AV) (es:List (AV × AV)) (z:AV):Option (AV × Bool):=
 match rn P t k es with
 | some (some v)=>some (v,true)
 | some none=>some (z,false)
 | none=>none
def su (ok:Bool) (v:AV) (f:Bool):AV:=
 match ok with
 | true=>.aH [v,.bool f]
 | false=>v
structure az where
 mM:List Nat
 own:List Nat
 Ad:List Nat
 Ik:List Nat
 EW:List (Nat × List Nat × List Nat):=[]
 lc:List Nat:=[]
def rp:List Nat->Nat->Bool
 | [],_=>false
 | x::r,n=>match Nat.beq x n with
   | true=>true
   | false=>rp r n
inductive cO (b:Nat) (o:Ob) (b':Nat) (o':Ob):af->af->Prop
 | here (h:af):cO b o b' o' ((b,o)::h) ((b',o')::h)
 | there {x:Nat × Ob} {h h':af}:cO b o b' o' h h'->cO b o b' o' (x::h) (x::h')
inductive bo (b:Nat) (o:Ob):af->af->Prop
 | here (h:af):bo b o ((b,o)::h) h
 | there {x:Nat × Ob} {h h':af}:bo b o h h'->bo b o (x::h) (x::h')
def tT (P:Program) (f:FuncId):Prop:=∃ fn c,P.funcs[f]?=some fn/\fn.body=some c/\(fn.name == "runtime.NumGoroutine")=false
def wy (P:Program) (f:FuncId) (us:Array Value) (w:World) (R:Ending->World->Prop):Prop:=
 (tT P f/\Calls P f us w R)\/∃ v w',(callFunc f us).run P w=.ok (.value v) w'/\R (.returned v) w'
theorem wy.mono {P:Program} {f:FuncId} {us:Array Value} {w:World} {R R':Ending->World->Prop} (hc:wy P f us w R) (h:∀ e w',R e w'->R' e w'):wy P f us w R':=by
 rcases hc with ⟨h1,h2⟩|⟨v,w',h1,h2⟩
 ·exact .inl ⟨h1,h2.mono h⟩
 exact .inr ⟨v,w',h1,h _ _ h2⟩
structure aB (P:Program) (f:FuncId) (args:List AV) (h:af) (R:AV->af->Prop):Prop where
 calls:∀ (X:Nat->Prop) (g:Gh) (w:World) (us:Array Value),CW X g h w->ax ⟨g,live X h,w⟩ args us.toList ->
  wy P f us w fun e w'=>∃ v u g' h',e=.returned u/\R v h'/\CW X g' h' w'/\aa ⟨g',live X h',w'⟩ v u/\Step X g h w g' h' w'
def ae (P:Program) (f:FuncId) (args:List AV) (h:af) (v:AV):Prop:=
 aB P f args h fun v' h'=>v'=v/\h'=h
def tU (d:Option TypeDesc) (x:AV) (K:AV->Prop):Prop:=
 match d,x with
 | some (.slice _),.sl _ _ xs=>K (.int .i64 xs.length)
 | some (.slice _),.aT=>K (.int .i64 0)
 | some (.slice _),.wx _=>K (.int .i64 0)
 | some (.slice _),.gZ=>K (.int .i64 0)
 | some (.slice _),.aQ _ _ n _=>K (.int .i64 n)
 | some (.slice _),.eM _ _ n _ _=>K (.int .i64 n)
 | some .string,.str s=>K (.int .i64 s.length)
 | _,_=>False
def uQ (P:Program) (s:TypeId) (f:Nat):Option Field:=
 match P.underlying s with
 | some (.struct fs)=>fs.toList[f]?
 | _=>none
def gy (P:Program) (t:TypeId) (cs:List AV) (K:AV->Prop):Prop:=
 match nF P t with
 | some true=>(match takeN (P.cellsOf t) cs with
   | some l=>K (.agg l)
   | none=>False)
 | some false=>(match cs with
   | c::_=>K c
   | []=>False)
 | none=>False
def foldI (f:Int->Int->Int):Int->List AV->Option Int
 | x,[]=>some x
 | x,.int .i64 y::r=>foldI f (f x y) r
 | _,_=>none
def wz:List (Nat × AV)->(Nat->Option (Nat × Nat))->List AV->Option (List AV)
 | [],_,cs=>some cs
 | (i,v)::r,place,cs=>match place i with
   | some (off,size)=>
     (match ql v with
      | some l=>(match Nat.beq l.length size with
        | true=>(match takeN off cs with
          | some a=>(match jd (off+size) cs with
            | some b=>wz r place (a++l++b)
            | none=>none)
          | none=>none)
        | false=>none)
      | none=>none)
   | none=>none
def placesOf (P:Program):List Field->Option (List (Nat × Nat))
 | []=>some []
 | f::fs=>match P.info? f.type with
   | some i=>(match placesOf P fs with
     | some l=>some ((f.offset,i.size)::l)
     | none=>none)
   | none=>none
def partsOf (r:aC) (g:G):List (Nat × Operand)->Option (List (Nat × AV))
 | []=>some []
 | (i,x)::ps=>match aK r g x with
   | some v=>(match partsOf r g ps with
     | some l=>some ((i,v)::l)
     | none=>none)
   | none=>none
def iF (r:aC) (g:G) (size:Nat):Nat->List (Nat × Operand)->Option (List (List AV))
 | _,[]=>some []
 | n,(i,x)::ps=>match Nat.beq i n with
   | true=>(match aK r g x with
     | some v=>(match ql v with
       | some x=>(match Nat.beq x.length size with
         | true=>(match iF r g size (n+1) ps with
           | some l=>some (x::l)
           | none=>none)
         | false=>none)
       | none=>none)
     | none=>none)
   | false=>none
def Il:Bool->Option Nat->Option Nat
 | true,t=>t
 | false,_=>none
def pf (off l cap k:Nat):Nat:=if cap=l then off else off+l*k
def pg (g:G) (x:AV) (lo hi:Int) (Vc:Bool) (K:AV->Prop):Prop:=
 match x with
 | .str s=>gP g (0<=lo/\lo<=hi/\hi<=s.length)/\K (.str ((s.take hi.toNat).drop lo.toNat))
 | .sl k t xs=>gP g (0<=lo/\lo<=hi/\hi<=xs.length)/\K (.sl k (Il Vc t) ((xs.take hi.toNat).drop lo.toNat))
 | .aQ b off n k=>gP g (0<=lo/\lo<=hi/\hi<=n/\(lo=0\/lo<hi\/lo=hi))/\K (.aQ b (off+lo.toNat*k) (hi.toNat - lo.toNat) k)
 | .eM b off n c k=>gP g (0<=lo/\lo<=hi/\hi<=c/\hi<=140737488355328)/\K (.eM b (pf off lo.toNat c k) (hi.toNat - lo.toNat) (c - lo.toNat) k)
 | .aT=>gP g (lo=0/\hi=0)/\K .aT
 | _=>False
def yb (P:Program) (t:TypeId):AV->Bool
 | .str _=>(match P.underlying t with|some .string=>true|_=>false)
 | .sl k _ _=>(match P.underlying t with|some (.slice e)=>Nat.beq (P.cellsOf e) k|_=>false)
 | .aQ _ _ _ k=>(match P.underlying t with|some (.slice e)=>Nat.beq (P.cellsOf e) k|_=>false)
 | .eM _ _ _ _ k=>(match P.underlying t with|some (.slice e)=>Nat.beq (P.cellsOf e) k|_=>false)
 | .aT=>(match P.underlying t with|some (.slice e)=>Nat.ble 1 (P.cellsOf e)|_=>false)
 | _=>false
def intOf?:AV->Option Int
 | .int _ n=>some n
 | _=>none
def lenOf?:AV->Option Nat
 | .sl _ _ xs=>some xs.length
 | .aQ _ _ n _=>some n
 | .eM _ _ n _ _=>some n
 | .str s=>some s.length
 | .aT=>some 0
 | _=>none
def ph (r:aC) (g:G):Option Operand->Int->Option Int
 | none,d=>some d
 | some x,_=>match aK r g x with
   | some v=>intOf? v
   | none=>none
def Nf (ns:List Int):List UInt8:=(runesBytes ns).data.toList
theorem Ng (f:Int->AV):∀ ns:List Int,(ns.map fun n=>[f n]).flatten=ns.map f
 | []=>rfl
 | x::l=>by simp [Ng f l]
def uR (P:Program) (s:TypeId) (xs:List (List AV)) (K:AV->Prop):Prop:=
 match P.underlying s with
 | some (.slice e)=>(match P.underlying e with
   | some (.int .i32)=>∃ ns:List Int,(xs=ns.map (fun n=>[AV.int .i32 n])/\ns≠[]/\ns.length<=65536)/\K (.str (Nf ns))
   | _=>False)
 | _=>False
def bM (P:Program) (r:aC) (g:G) (h:af) (K:AV->Prop):Op->Prop
 | .move x=>match aK r g x with|some v=>K v|none=>False
 | .assign x=>match aK r g x with|some v=>K v|none=>False
 | .pick (.tmp t) (.tmp a) (.const (.bool false))=>
   (match aK r g (.tmp t) with
   | some (.bool b)=>(match aK r (g++[(t,b,true)]) (.tmp a) with
     | some (.bool x)=>K (.bool (b&&x))
     | _=>False)
   | _=>False)
 | .pick (.tmp t) (.const (.bool true)) (.tmp a)=>
   (match aK r g (.tmp t) with
   | some (.bool b)=>(match aK r (g++[(t,b,false)]) (.tmp a) with
     | some (.bool x)=>K (.bool (b||x))
     | _=>False)
   | _=>False)
 | .binOp op t x y _=>(match aK r g x with
   | some u=>(match aK r g y with
     | some v=>tQ P g t op u v K
     | none=>False)
   | none=>False)
 | .unOp .not _ x=>(match aK r g x with|some (.bool b)=>K (.bool (!b))|_=>False)
 | .fieldAddr s x f=>(match aK r g x with
   | some (.au cs)=>(match uQ P s f with
     | some fd=>(match jd fd.offset cs with
       | some l=>(match Nat.ble 1 (P.cellsOf fd.type) with|true=>K (.au l)|false=>False)
       | none=>False)
     | none=>False)
   | some (.bj b o)=>(match uQ P s f with
     | some fd=>(match Nat.ble 1 (P.cellsOf fd.type) with|true=>K (.bj b (o+fd.offset))|false=>False)
     | none=>False)
   | _=>False)
 | .field s x f=>(match aK r g x with
   | some (.agg cs)=>(match uQ P s f with
     | some fd=>(match jd fd.offset cs with
       | some l=>gy P fd.type l K
       | none=>False)
     | none=>False)
   | _=>False)
 | .load t x=>(match aK r g x with
   | some (.au cs)=>gy P t cs K
   | some (.bj b o)=>∃ cs l,(b,Ob.vec cs)∈h/\jd o cs=some l/\gy P t l K
   | _=>False)
 | .box t x=>(match aK r g x with
   | some v=>(match ql v with
     | some l=>(match Nat.beq l.length (P.cellsOf t) with|true=>K (.au l)|false=>False)
     | none=>False)
   | none=>False)
 | .indexAddr t x i=>(match P.underlying t with
   | some (.slice e)=>(match aK r g x with
     | some (.sl k _ xs)=>(match Nat.beq k (P.cellsOf e) with
       | true=>(match aK r g i with
         | some (.int _ n)=>∃ (j:Nat) (y:List AV),gP g (n=(j:Int)/\xs[j]?=some y)/\K (.au y)
         | _=>False)
       | false=>False)
     | some (.aQ b off len k)=>(match Nat.beq k (P.cellsOf e) with
       | true=>(match aK r g i with
         | some (.int _ n)=>∃ (j:Nat),gP g (n=(j:Int)/\j<len)/\K (.bj b (off+j*k))
         | _=>False)
       | false=>False)
     | _=>False)
   | some (.array m e)=>(match P.info? e with
     | some _=>(match aK r g x with
       | some (.au cs)=>(match aK r g i with
         | some (.int _ n)=>∃ (j:Nat) (l:List AV),gP g (n=(j:Int)/\j<m)/\jd (j*P.cellsOf e) cs=some l/\K (.au l)
         | _=>False)
       | _=>False)
     | none=>False)
   | _=>False)
 | .index t x i=>(match P.underlying t with
   | some .string=>(match aK r g x with
     | some (.str s)=>(match aK r g i with
       | some (.int _ n)=>∃ (j:Nat) (y:UInt8),gP g (n=(j:Int)/\s[j]?=some y)/\K (.int .u8 y.toNat)
       | _=>False)
     | _=>False)
   | _=>False)
 | .nilCheck x=>(match aK r g x with
   | some (.au cs)=>K (.au cs)
   | some (.bj b o)=>K (.bj b o)
   | _=>False)
 | .extract x i=>(match aK r g x with
   | some (.aH vs)=>(match jd i vs with
     | some (v::_)=>K v
     | _=>False)
   | _=>False)
 | .build t parts=>(match P.underlying t with
   | some (.struct fs)=>(match placesOf P fs.toList with
     | some pl=>(match partsOf r g parts.toList with
       | some ps=>(match jc P t with
         | some z=>(match wz ps (fun i=>pl[i]?) z with
           | some cs=>K (.agg cs)
           | none=>False)
         | none=>False)
       | none=>False)
     | none=>False)
   | some (.array _ e)=>(match P.info? e with
     | some ie=>(match partsOf r g parts.toList with
       | some ps=>(match jc P t with
         | some z=>(match wz ps (fun i=>some (i*ie.size,ie.size)) z with
           | some cs=>K (.agg cs)
           | none=>False)
         | none=>False)
       | none=>False)
     | none=>False)
   | _=>False)
 | .buildSlice t n parts=>(match P.underlying t with
   | some (.slice e)=>(match iF r g (P.cellsOf e) 0 parts.toList with
     | some l=>(match Nat.beq l.length n with
       | true=>(match Nat.ble 1 (P.cellsOf e) with
         | true=>(match Nat.ble (n*P.cellsOf e) 65536 with
           | true=>(match jc P e with
             | some z=>(match Nat.beq z.length (P.cellsOf e) with
               | true=>K (.sl (P.cellsOf e) none l)
               | false=>False)
             | none=>False)
           | false=>False)
         | false=>False)
       | false=>False)
     | none=>False)
   | _=>False)
 | .slice t x lo hi none=>(match aK r g x with
   | some v=>(match yb P t v with
     | true=>(match lenOf? v with
       | some n=>(match ph r g lo 0 with
         | some a=>(match ph r g hi n with
           | some b=>pg g v a b (match hi with|none=>true|some _=>false) K
           | none=>False)
         | none=>False)
       | none=>False)
     | false=>False)
   | none=>False)
 | .convert s t x=>(match P.underlying s with
   | some _=>(match P.underlying t,aK r g x with
     | some (.int k),some (.int _ n)=>arith g k n K
     | some .string,some (.str s)=>K (.str s)
     | some .string,some (.sl 1 _ xs)=>uR P s xs K
     | _,_=>False)
   | none=>False)
 | .makeFunc (.func f) first bF=>(match first.toList with
   | []=>(match bS r g bF.toList with
     | some l=>K (.fn f l)
     | none=>False)
   | _=>False)
 | .call cl=>(match cl.callee with
   | .builtin .len=>(match cl.argTypes.toList with
     | [t]=>(match bS r g cl.args.toList with
       | some [x]=>tU (P.underlying t) x K
       | _=>False)
     | _=>False)
   | .builtin .cap=>(match cl.argTypes.toList with
     | [t]=>(match P.underlying t with
       | some (.slice _)=>(match bS r g cl.args.toList with
         | some [.eM _ _ _ c _]=>K (.int .i64 c)
         | _=>False)
       | _=>False)
     | _=>False)
   | .builtin .min=>(match bS r g cl.args.toList with
     | some (.int .i64 x::l)=>(match foldI min x l with
       | some n=>K (.int .i64 n)
       | none=>False)
     | _=>False)
   | .builtin .max=>(match bS r g cl.args.toList with
     | some (.int .i64 x::l)=>(match foldI max x l with
       | some n=>K (.int .i64 n)
       | none=>False)
     | _=>False)
   | .value (.func f)=>(match bS r g cl.args.toList with
     | some vs=>∃ v,gP g (ae P f vs h v)/\K v
     | none=>False)
   | .value (.tmp t)=>(match aK r g (.tmp t) with
     | some (.fn f bF)=>(match bS r g cl.args.toList with
       | some vs=>∃ v,gP g (ae P f (vs++bF) h v)/\K v
       | none=>False)
     | _=>False)
   | _=>False)
 | .lookup t x i ok=>(match P.underlying t with
   | some (.map kt et)=>(match aK r g i with
     | some k=>(match zeroV P et with
       | some z=>(match aK r g x with
         | some (.omap b)=>∃ es v f,(b,Ob.map es)∈h/\gP g (ss P kt k/\ya P kt k es z=some (v,f))/\K (su ok v f)
         | some .BN=>gP g (ss P kt k)/\K (su ok z false)
         | _=>False)
       | none=>False)
     | none=>False)
   | _=>False)
 | _=>False
def dt (cs:List AV) (o:Nat) (vs:List AV):List AV:=cs.take o++vs++cs.drop (o+vs.length)
def gM (n:Nat) (z:List AV):List AV:=(List.replicate n z).flatten
def aU:Nat:=4294967296
def rq (k:Nat):AV->Option (List (List AV))
 | .sl k' _ ys=>(match Nat.beq k' k with|true=>some ys|false=>none)
 | .aT=>some []
 | .wx k'=>(match Nat.beq k' k with|true=>some []|false=>none)
 | .str s=>(match Nat.beq 1 k with|true=>some (s.map fun b=>[AV.int .u8 b.toNat])|false=>none)
 | _=>none
def sw (P:Program) (t:TypeId):Bool:=
 match P.underlying t with
 | some (.slice _)=>true
 | some .string=>true
 | _=>false
def kU (s:List UInt8) (pos:Nat):Nat × Nat:=Utf8.decode ⟨s.toArray⟩ pos
def cE (P:Program) (r:aC) (h:af) (K:AV->af->Prop):Op->Prop
 | .box t x=>(match aK r [] x with
   | some v=>(match ql v with
     | some l=>(match Nat.beq l.length (P.cellsOf t) with|true=>∀ b,K (.bj b 0) ((b,.vec l)::h)|false=>False)
     | none=>False)
   | none=>False)
 | .alloc t=>(match jc P t with
   | some z=>∀ b,K (.bj b 0) ((b,.vec z)::h)
   | none=>False)
 | .store t x y=>(match aK r [] x with
   | some (.bj b o)=>(match aK r [] y with
     | some v=>(match ql v with
       | some l=>(match Nat.beq l.length (P.cellsOf t) with
         | true=>∃ cs h',cO b (.vec cs) b (.vec (dt cs o l)) h h'/\(0<l.length/\o+l.length<=cs.length)/\K .unit h'
         | false=>False)
       | none=>False)
     | none=>False)
   | _=>False)
 | .binOp .add _ x y _=>(match aK r [] x with
   | some (.int .i64 a)=>(match aK r [] y with
     | some (.int .i64 b)=>K (.int .i64 (IntKind.i64.wrap (a+b))) h
     | _=>False)
   | _=>False)
 | .makeMap _ none=>∀ b,K (.omap b) ((b,.map [])::h)
 | .mapUpdate t m k x=>(match P.underlying t with
   | some (.map kt _)=>(match aK r [] m with
     | some (.omap b)=>(match aK r [] k with
       | some kv=>(match aK r [] x with
         | some v=>∃ es h',cO b (.map es) b (.map (pe P kt kv v es)) h h'/\(ss P kt kv/\rn P kt kv es≠none)/\K .unit h'
         | none=>False)
       | none=>False)
     | _=>False)
   | _=>False)
 | .range t x=>(match P.underlying t with
   | some (.map _ _)=>(match aK r [] x with
     | some (.omap m)=>∃ es,(m,Ob.map es)∈h/\∀ bs cl,bs.length=es.length/\bs.Nodup->∃ h',cO m (.map es) m (.uP es bs cl) h h'/\∀ it,K (.tP it) ((it,.iter m cl [])::h')
     | _=>False)
   | some .string=>(match aK r [] x with
     | some (.str s)=>∀ it,K (.tP it) ((it,.oA s 0)::h)
     | _=>False)
   | _=>False)
 | .next x true=>(match aK r [] x with
   | some (.tP it)=>∃ s pos,(it,Ob.oA s pos)∈h/\(s.length<=pos->K (.aH [.bool false]) h) /\
      (pos<s.length->∃ h',cO it (.oA s pos) it (.oA s (pos+(kU s pos).2)) h h'/\K (.aH [.bool true,.int .i64 pos,.int .i32 (kU s pos).1]) h')
   | _=>False)
 | .next x false=>(match aK r [] x with
   | some (.tP it)=>∃ m cl seen es bs,(it,Ob.iter m cl seen)∈h/\(m,Ob.uP es bs cl)∈h/\((∀ b∈bs,b∈seen)->K (.aH [.bool false]) h) /\
      ∀ (i:Nat) b e,bs[i]?=some b->es[i]?=some e->b ∉ seen->∃ h',cO it (.iter m cl seen) it (.iter m cl (seen++[b])) h h'/\K (.aH [.bool true,e.1,e.2]) h'
   | _=>False)
 | .entry x=>(match aK r [] x with
   | some (.tP it)=>∃ m cl seen es bs,(it,Ob.iter m cl seen)∈h/\(m,Ob.uP es bs cl)∈h/\∃ (i:Nat) (b:Nat) (e:AV × AV) (s0:List Nat),seen=s0++[b]/\bs[i]?=some b/\es[i]?=some e/\K (.aH [e.1,e.2]) h
   | _=>False)
 | .makeSlice t x y=>(match P.underlying t with
   | some (.slice e)=>(match aK r [] x with
     | some (.int _ n)=>(match aK r [] y with
       | some (.int _ m)=>(match jc P e with
         | some z=>(match Nat.beq z.length (P.cellsOf e) with
           | true=>(match Nat.ble 1 z.length with
             | true=>(match Nat.ble (P.bytesOf e) 4096 with
               | true=>(n=m/\0<=n/\n<=4294967296)/\∀ b,K (.aQ b 0 n.toNat z.length) ((b,.vec (gM n.toNat z))::h)
               | false=>False)
             | false=>False)
           | false=>False)
         | none=>False)
       | _=>False)
     | _=>False)
   | _=>False)
 | .buildSlice t n parts=>(match P.underlying t with
   | some (.slice e)=>(match iF r [] (P.cellsOf e) 0 parts.toList with
     | some l=>(match Nat.beq l.length n with
       | true=>(match Nat.ble 1 (P.cellsOf e) with
         | true=>(match Nat.ble (n*P.cellsOf e) 65536 with
           | true=>(match jc P e with
             | some z=>(match Nat.beq z.length (P.cellsOf e) with
               | true=>∀ q,K (.sl (P.cellsOf e) (some q) l) ((q,.tok)::h)
               | false=>False)
             | none=>False)
           | false=>False)
         | false=>False)
       | false=>False)
     | none=>False)
   | _=>False)
 | .call cl=>(match cl.callee with
   | .value (.func f)=>(match bS r [] cl.args.toList with
     | some vs=>aB P f vs h K
     | none=>False)
   | .value (.tmp t)=>(match aK r [] (.tmp t) with
     | some (.fn f bF)=>(match bS r [] cl.args.toList with
       | some vs=>aB P f (vs++bF) h K
       | none=>False)
     | _=>False)
   | .builtin .append=>(match cl.argTypes.toList with
     | [t,tx]=>(match P.underlying t,sw P tx with
       | some (.slice e),true=>(match Nat.ble 1 (P.cellsOf e) with
         | true=>(match Nat.ble (P.bytesOf e) 4096 with
           | true=>(match jc P e with
            | none=>False
            | some z=>match Nat.beq z.length (P.cellsOf e) with
             | false=>False
             | true=>match bS r [] cl.args.toList with
             | some [.aT,.aQ b2 o2 n2 k2]=>(match Nat.beq k2 (P.cellsOf e) with
               | true=>∃ (eF:List AV) (ys:List (List AV)),(b2,Ob.vec eF)∈h/\((eF.drop o2).take (n2*k2)=ys.flatten/\(∀ z∈ys,z.length=k2)/\ys.length=n2)/\(0<n2/\n2<=aU)/\∀ b,K (.aQ b 0 n2 k2) ((b,.vec ys.flatten)::h)
               | false=>False)
             | some [.eM b off n c k,.aQ b2 o2 n2 k2]=>(match Nat.beq k (P.cellsOf e),Nat.beq k2 k with
               | true,true=>∃ (eF:List AV) (ys:List (List AV)),(b2,Ob.vec eF)∈h/\((eF.drop o2).take (n2*k2)=ys.flatten/\(∀ z∈ys,z.length=k2)/\ys.length=n2)/\n+n2<=aU/\∃ cs,(b,Ob.vec cs)∈h /\
                 ((n+n2<=c/\cs.length=off+n*k/\∃ h',cO b (.vec cs) b (.vec (cs++ys.flatten)) h h'/\K (.eM b off (n+n2) c k) h') \/
                  (c<n+n2/\(n=0\/off+n*k<=cs.length)/\∀ q,K (.aQ q 0 (n+n2) k) ((q,.vec ((cs.drop off).take (n*k)++ys.flatten))::h)))
               | _,_=>False)
             | some [.aT,y]=>(match rq (P.cellsOf e) y with
               | some ys=>ys.length<=aU/\∀ q,K (.sl (P.cellsOf e) (some q) ys) ((q,.tok)::h)
               | none=>False)
             | some [.gZ,y]=>(match rq (P.cellsOf e) y with
               | some ys=>(0<ys.length/\ys.length<=aU)/\∀ b,K (.aQ b 0 ys.length (P.cellsOf e)) ((b,.vec ys.flatten)::h)
               | none=>False)
             | some [.aQ b 0 n k,y]=>(match Nat.beq k (P.cellsOf e) with
               | true=>(match rq k y with
                 | some ys=>∃ cs,(b,Ob.vec cs)∈h/\(cs.length=n*k/\n+ys.length<=aU)/\∀ b',∃ h',cO b (.vec cs) b' (.vec (cs++ys.flatten)) h h'/\K (.aQ b' 0 (n+ys.length) k) h'
                 | none=>False)
               | false=>False)
             | some [.sl k (some q) xs,.aQ b2 o2 n2 k2]=>(match Nat.beq k (P.cellsOf e),Nat.beq k2 k with
               | true,true=>∃ cs ys,(b2,Ob.vec cs)∈h/\((cs.drop o2).take (n2*k2)=ys.flatten/\(∀ z∈ys,z.length=k2)/\ys.length=n2)/\(xs++ys).length<=aU/\∀ q',∃ h',cO q .tok q' .tok h h'/\K (.sl k (some q') (xs++ys)) h'
               | _,_=>False)
             | some [.sl k (some q) xs,y]=>(match Nat.beq k (P.cellsOf e) with
               | true=>(match rq k y with
                 | some ys=>(xs++ys).length<=aU/\∀ q',∃ h',cO q .tok q' .tok h h'/\K (.sl k (some q') (xs++ys)) h'
                 | none=>False)
               | false=>False)
             | _=>False)
           | false=>False)
         | false=>False)
       | some (.slice e),false=>(match P.underlying tx with
         | some (.int _)=>(match Nat.ble 1 (P.cellsOf e) with
           | true=>(match Nat.ble (P.bytesOf e) 4096 with
             | true=>(match jc P e with
               | some z=>(match Nat.beq z.length (P.cellsOf e) with
                 | true=>(match bS r [] cl.args.toList with
                   | some [.eM b off n c k,.int _ m]=>(match Nat.beq k (P.cellsOf e) with
                     | true=>∃ (cs:List AV),(b,Ob.vec cs)∈h/\(0<m/\(c:Int)<n+m/\(n:Int)+m<=4294967296/\off+n*k<=cs.length)/\∀ q,K (.aQ q 0 (n+m.toNat) k) ((q,.vec ((cs.drop off).take (n*k)++gM m.toNat z))::h)
                     | false=>False)
                   | _=>False)
                 | false=>False)
               | none=>False)
             | false=>False)
           | false=>False)
         | _=>False)
       | _,_=>False)
     | _=>False)
   | .builtin .copy=>(match cl.argTypes.toList with
     | [t,_]=>(match P.underlying t with
       | some (.slice e)=>(match bS r [] cl.args.toList with
         | some [.aQ b o n k,.aQ b2 o2 n2 k2]=>(match Nat.beq k (P.cellsOf e),Nat.beq k2 k,Nat.ble 1 (P.cellsOf e) with
           | true,true,true=>∃ (eF:List AV) (ys:List (List AV)),(b2,Ob.vec eF)∈h/\((eF.drop o2).take (min n2 n*k2)=ys.flatten/\(∀ z∈ys,z.length=k2)/\ys.length=min n2 n) /\
              ∃ cs h',cO b (.vec cs) b (.vec (dt cs o ys.flatten)) h h'/\(0<min n2 n/\o+ys.flatten.length<=cs.length)/\K (.int .i64 (min n2 n:Nat)) h'
           | _,_,_=>False)
         | some [.aQ b o n k,.eM b2 o2 n2 _ k2]=>(match Nat.beq k (P.cellsOf e),Nat.beq k2 k,Nat.ble 1 (P.cellsOf e) with
           | true,true,true=>∃ (eF:List AV) (ys:List (List AV)),(b2,Ob.vec eF)∈h/\((eF.drop o2).take (min n2 n*k2)=ys.flatten/\(∀ z∈ys,z.length=k2)/\ys.length=min n2 n) /\
              ∃ cs h',cO b (.vec cs) b (.vec (dt cs o ys.flatten)) h h'/\(0<min n2 n/\o+ys.flatten.length<=cs.length)/\K (.int .i64 (min n2 n:Nat)) h'
           | _,_,_=>False)
         | some [.eM b o n _ k,.eM b2 o2 n2 _ k2]=>(match Nat.beq k (P.cellsOf e),Nat.beq k2 k,Nat.ble 1 (P.cellsOf e) with
           | true,true,true=>∃ (eF:List AV) (ys:List (List AV)),(b2,Ob.vec eF)∈h/\((eF.drop o2).take (min n2 n*k2)=ys.flatten/\(∀ z∈ys,z.length=k2)/\ys.length=min n2 n) /\
              ∃ cs h',cO b (.vec cs) b (.vec (dt cs o ys.flatten)) h h'/\(0<min n2 n/\o<=cs.length)/\K (.int .i64 (min n2 n:Nat)) h'
           | _,_,_=>False)
         | some [.eM b o n _ k,.aQ b2 o2 n2 k2]=>(match Nat.beq k (P.cellsOf e),Nat.beq k2 k,Nat.ble 1 (P.cellsOf e) with
           | true,true,true=>∃ (eF:List AV) (ys:List (List AV)),(b2,Ob.vec eF)∈h/\((eF.drop o2).take (min n2 n*k2)=ys.flatten/\(∀ z∈ys,z.length=k2)/\ys.length=min n2 n) /\
              ∃ cs h',cO b (.vec cs) b (.vec (dt cs o ys.flatten)) h h'/\(0<min n2 n/\o<=cs.length)/\K (.int .i64 (min n2 n:Nat)) h'
           | _,_,_=>False)
         | some [.aQ b o n k,y]=>(match Nat.beq k (P.cellsOf e),Nat.ble 1 (P.cellsOf e) with
           | true,true=>(match rq k y with
             | some ys=>∃ cs h',cO b (.vec cs) b (.vec (dt cs o ys.flatten)) h h'/\(0<ys.length/\ys.length<=n/\o+ys.flatten.length<=cs.length)/\K (.int .i64 ys.length) h'
             | none=>False)
           | _,_=>False)
         | _=>False)
       | _=>False)
     | _=>False)
   | .builtin .clear=>(match cl.argTypes.toList with
     | [t]=>(match P.underlying t with
       | some (.slice e)=>(match jc P e with
         | some z=>(match bS r [] cl.args.toList with
           | some [.aQ b o n k]=>(match Nat.beq z.length k with
             | true=>∃ cs h',cO b (.vec cs) b (.vec (dt cs o (gM n z))) h h'/\(0<n/\o+n*k<=cs.length)/\K (.aH []) h'
             | false=>False)
           | _=>False)
         | none=>False)
       | _=>False)
     | _=>False)
   | _=>False)
 | _=>False
def uS (P:Program) (r:aC) (h:af) (K:AV->af->Prop) (cl:Call):Prop:=
 match cl.callee with
 | .builtin .append=>(match cl.argTypes.toList with
   | [t,tx]=>(match P.underlying t,sw P tx with
     | some (.slice e),true=>(match Nat.ble 1 (P.cellsOf e) with
       | true=>(match Nat.ble (P.bytesOf e) 4096 with
         | true=>(match jc P e with
           | none=>False
           | some z=>match Nat.beq z.length (P.cellsOf e) with
             | false=>False
             | true=>match bS r [] cl.args.toList with
               | some [.aT,y]=>(match rq (P.cellsOf e) y with
                 | some ys=>(0<ys.length/\ys.length<=aU)/\∀ b,K (.aQ b 0 ys.length (P.cellsOf e)) ((b,.vec ys.flatten)::h)
                 | none=>False)
               | some [.eM b off 0 0 k,y]=>(match Nat.beq k (P.cellsOf e) with
                 | true=>(match rq k y with
                   | some ys=>((∃ cs,(b,Ob.vec cs)∈h)/\0<ys.length/\ys.length<=aU)/\∀ q,K (.aQ q 0 ys.length k) ((q,.vec ys.flatten)::h)
                   | none=>False)
                 | false=>False)
               | _=>False)
         | false=>False)
       | false=>False)
     | _,_=>False)
   | _=>False)
 | _=>False
def uT (P:Program) (r:aC) (h:af) (K:AV->af->Prop) (t:TypeId) (n:Nat) (parts:Array (Nat × Operand)):Prop:=
 match P.underlying t with
 | some (.slice e)=>(match iF r [] (P.cellsOf e) 0 parts.toList with
   | some l=>(match Nat.beq l.length n,Nat.ble 1 (P.cellsOf e),Nat.ble (n*P.cellsOf e) 65536 with
     | true,true,true=>(match jc P e with
       | some z=>(match Nat.beq z.length (P.cellsOf e) with
         | true=>(match n with
           | 0=>∀ b,K (.eM b 0 0 0 (P.cellsOf e)) ((b,.vec [])::h)
           | n+1=>∀ b,K (.aQ b 0 (n+1) (P.cellsOf e)) ((b,.vec l.flatten)::h))
         | false=>False)
       | none=>False)
     | _,_,_=>False)
   | none=>False)
 | _=>False
def gN (P:Program) (own jL:List Nat) (d:Option Nat) (r:aC) (h:af) (K:AV->af->Prop) (op:Op):Prop:=
 match op,d with
 | .call cl,some d=>(match rp own d with
   | true=>uS P r h K cl
   | false=>cE P r h K (.call cl))
 | .buildSlice t n parts,some d=>(match rp jL d with
   | true=>uT P r h K t n parts
   | false=>cE P r h K (.buildSlice t n parts))
 | _,_=>cE P r h K op
def pj:aC->Nat->Bool
 | [],_=>true
 | (_,[],_)::r,d=>pj r d
 | (_,(e::g),_)::r,d=>match EX (e::g) d with
   | true=>false
   | false=>pj r d
where EX:G->Nat->Bool
 | [],_=>false
 | (t,_,_)::g,d=>match Nat.beq t d with
   | true=>true
   | false=>EX g d
def wA (c:az) (d:Option Nat):Op->Bool
 | .box _ _|.buildSlice _ _ _|.binOp _ _ _ _ _=>match d with
   | some n=>rp c.own n
   | none=>false
 | .alloc _|.store _ _ _|.makeMap _ _|.makeSlice _ _ _|.mapUpdate _ _ _ _|.range _ _|.next _ _|.entry _=>true
 | .call cl=>(match cl.callee with
   | .builtin .append=>true
   | .builtin .clear=>true
   | .builtin .copy=>true
   | .value _=>true
   | _=>false)
 | _=>false
def yc:Op->Bool
 | .call cl=>(match cl.callee with
   | .value _=>true
   | _=>false)
 | _=>false
def pk (r:aC) (k:aC->Prop):List Nat->Prop
 | []=>k []
 | t::ts=>match bp r t with
   | some ([],v)=>pk r (fun l=>k ((t,[],v)::l)) ts
   | _=>pk r k ts
def fT (n:Nat) (d:Option Nat) (g:G) (v:AV) (r:aC) (K:aC->Prop):Prop:=
 match d with
 | none=>K r
 | some d=>match Nat.blt d n with
   | true=>(match pj ((d,g,v)::r) d with
     | true=>K ((d,g,v)::r)
     | false=>False)
   | false=>False
def yd (P:Program) (r:aC) (h:af) (t:TypeId) (d:Nat) (y:Operand) (K:aC->af->Prop):Prop:=
 match aK r [] (.tmp d) with
 | some (.bj b 0)=>(match aK r [] y with
   | some v=>(match ql v with
     | some l=>(match Nat.beq l.length (P.cellsOf t) with
       | true=>∃ cs h',bo b (.vec cs) h h'/\(0<l.length/\cs.length=l.length)/\K ((d,[],.au l)::r) h'
       | false=>False)
     | none=>False)
   | none=>False)
 | _=>False
def uU (tj:Nat) (w:Bool):G->G
 | []=>[]
 | (t,b,v)::g=>match Nat.beq t tj with
   | true=>(match EU v w with
     | true=>uU tj w g
     | false=>(t,b,v)::uU tj w g)
   | false=>(t,b,v)::uU tj w g
def tV (tj:Nat) (w:Bool):aC->aC
 | []=>[]
 | (t,g,v)::r=>(t,uU tj w g,v)::tV tj w r
def lx (P:Program) (c:az) (n:Nat) (all:List Oper) (K:aC->af->Prop):List Oper->aC->af->Prop
 | [],r,h=>pk r (fun r'=>K r' h) c.mM
 | o::os,r,h=>
   match o.guard with
   | none=>(match wA c o.dst o.op with
     | true=>(match o.op,o.dst with
       | .store t (.tmp d) y,none=>(match rp c.Ad d with
         | true=>yd P r h t d y (lx P c n all K os)
         | false=>cE P r h (fun v h'=>fT n o.dst [] v r fun r'=>lx P c n all K os r' h') o.op)
       | _,_=>gN P c.own c.lc o.dst r h (fun v h'=>fT n o.dst [] v r fun r'=>lx P c n all K os r' h') o.op)
     | false=>bM P r [] h (fun v=>fT n o.dst [] v r fun r'=>lx P c n all K os r' h) o.op)
   | some (j,w)=>match all[j]? with
     | some oj=>(match oj.dst with
       | some tj=>(match bp r tj with
         | some (gj,.bool b)=>(match yc o.op,(match o.dst with|some d=>rp c.Ik d|none=>false) with
           | true,true=>(match gj with
             | []=>(b=w->cE P (tV tj w r) h (fun v h'=>fT n o.dst [] v (tV tj w r) fun r'=>lx P c n all K os r' h') o.op) /\
                (b≠w->fT n o.dst [(tj,b,w)] (.bool false) r fun r'=>lx P c n all K os r' h)
             | _=>False)
           | _,_=>(match (match yc o.op with|true=>false|false=>wA c o.dst o.op) with
             | true=>False
             | false=>bM P r (gj++[(tj,b,w)]) h (fun v=>fT n o.dst (gj++[(tj,b,w)]) v r fun r'=>lx P c n all K os r' h) o.op))
         | _=>False)
       | none=>False)
     | none=>False
def ly (cl:List Nat) (i:Nat):Nat:=match cl[i]? with|some m=>m|none=>0
def wB (cl:List Nat):List Edge->Nat
 | []=>0
 | e::es=>match Region.binds .any e with
   | true=>Nat.lor (Nat.lor (2 ^ e.on) (ly cl e.on)) (wB cl es)
   | false=>wB cl es
def je:List Oper->List Nat->List Nat
 | [],acc=>acc
 | o::os,acc=>je os (acc++[wB acc o.after.toList])
def ru:List Operand->List Nat
 | []=>[]
 | .tmp t::xs=>t::ru xs
 | _::xs=>ru xs
def jq (all:List Oper) (o:Oper):List Nat:=
 (match o.guard with
  | some (j,_)=>(match all[j]? with
    | some oj=>(match oj.dst with|some t=>[t]|none=>[])
    | none=>[])
  | none=>[])++ru o.op.operands.toList
def isDst (t:Nat) (o:Oper):Bool:=match o.dst with|some d=>Nat.beq d t|none=>false
def Nh (cl:List Nat) (all:List (Nat × Oper)) (i t:Nat):Bool:=all.all fun (j,o)=>!isDst t o||Nat.testBit (ly cl i) j||Nat.testBit (ly cl j) i
def aP (all:List Oper) (ord:List Nat):Bool:=
 let cl:=je all []
 let ix:=all.zipIdx.map fun (o,i)=>(i,o)
 (ix.all fun (i,o)=>(o.after.toList.all fun e=>!Region.binds .any e||Nat.blt e.on i)&&Nat.beq (ly cl i) (wB cl o.after.toList)) &&
 Nat.beq ord.length all.length&&((List.range all.length).all fun i=>ord.contains i)&&EY ord &&
 EZ [] ord &&
 (ix.all fun (i,o)=>(jq all o).all fun t=>Nh cl ix i t) &&
 (ix.all fun (i,o)=>ix.all fun (j,o')=>Nat.beq i j||(match o.dst with|some d=>!isDst d o'|none=>true))
where
 EY:List Nat->Bool
  | []=>true
  | x::xs=>!xs.contains x&&EY xs
 EZ:List Nat->List Nat->Bool
  | _,[]=>true
  | pre,i::rest=>(match all[i]? with
    | some o=>o.after.toList.all fun e=>!Region.binds .any e||pre.contains e.on
    | none=>false)&&EZ (i::pre) rest
def ye (cl:List Nat) (all:List Oper) (i:Nat):G->Bool
 | []=>true
 | (t,_,_)::g=>(all.zipIdx.all fun (o,j)=>!isDst t o||Nat.testBit (ly cl i) j)&&ye cl all i g
def BS (cl:List Nat) (i:Nat):List Nat->Bool
 | []=>true
 | j::rest=>match Nat.testBit (ly cl j) i with
   | true=>BS cl i rest
   | false=>false
def BT (cl:List Nat) (i:Nat):List Nat->Bool
 | []=>true
 | j::rest=>match Nat.testBit (ly cl i) j with
   | true=>BT cl i rest
   | false=>false
def reads (op:Op):Bool:=match op with
 | .load _ _=>true
 | .lookup _ _ _ _=>true
 | _=>false
def calm (r:aC):Op->Bool
 | .call cl=>(match cl.callee with
   | .builtin .append=>(match bS r [] cl.args.toList with
     | some (.aT::_)=>true
     | some (.sl _ (some _) _::_)=>true
     | _=>false)
   | _=>false)
 | _=>false
def uV (cl:List Nat) (all:List Oper) (i:Nat):List Nat->Bool
 | []=>true
 | j::rest=>match Nat.testBit (ly cl i) j with
   | true=>uV cl all i rest
   | false=>(match all[j]? with
     | some o=>(match reads o.op with
       | true=>uV cl all i rest
       | false=>false)
     | none=>false)
def sy:Op->Bool
 | .alloc _=>true
 | .box _ _=>true
 | .makeMap _ _=>true
 | .makeSlice _ _ _=>true
 | .buildSlice _ _ _=>true
 | _=>false
def rv (r:aC) (g:G):Op->Bool
 | .load _ x=>(match aK r g x with|some (.au _)=>true|_=>false)
 | .lookup _ _ _ _=>false
 | .call cl=>(match cl.callee with|.builtin _=>true|_=>false)
 | _=>true
def dN (P:Program) (all:List Oper) (r:aC) (h:af) (K:G->AV->Prop) (o:Oper):Prop:=
 match o.guard with
 | none=>bM P r [] h (K []) o.op
 | some (j,w)=>match all[j]? with
   | some oj=>(match oj.dst with
     | some tj=>(match bp r tj with
       | some (gj,.bool b)=>bM P r (gj++[(tj,b,w)]) h (K (gj++[(tj,b,w)])) o.op
       | _=>False)
     | none=>False)
   | none=>False
def Ae (c:az) (o:Oper):Bool:=
 match yc o.op with
 | true=>(match o.dst with|some d=>rp c.lc d|none=>true)
 | false=>wA c o.dst o.op
def tW (K:aC->af->Prop):List Nat->aC->af->Prop
 | [],r,h=>K r h
 | d::ds,r,h=>match bp r d with
   | some ([],.bj b 0)=>∃ cs h',bo b (.vec cs) h h'/\tW K ds ((d,[],.au cs)::r) h'
   | _=>False
def sz (P:Program) (c:az) (n:Nat) (all:List Oper) (cl:List Nat) (K:aC->af->Prop):List Nat->List Nat->aC->af->Prop
 | [],_,r,h=>K r h
 | i::rest,nf,r,h=>match all[i]? with
   | none=>False
   | some o=>match Ae c o with
     | true=>(match o.guard with
       | none=>(match BS cl i rest with
         | true=>(match (match sy o.op with|true=>true|false=>(match calm r o.op with|true=>uV cl all i nf|false=>BT cl i nf)) with
           | true=>gN P c.own c.lc o.dst r h (fun v h'=>fT n o.dst [] v r fun r'=>sz P c n all cl K rest nf r' h') o.op
           | false=>False)
         | false=>False)
       | some _=>False)
     | false=>dN P all r h (fun g v=>match ye cl all i g with
       | true=>fT n o.dst g v r fun r'=>sz P c n all cl K rest (match rv r g o.op with|true=>nf|false=>i::nf) r' h
       | false=>False) o
def BU:List (Nat × List Nat × List Nat)->Nat->Option (List Nat × List Nat)
 | [],_=>none
 | (i,x)::l,n=>match Nat.beq i n with
   | true=>some x
   | false=>BU l n
inductive Ex where
 | normal|exit (id:Nat)|ret
def di (a:Act) (g:G):Prop:=∀ e∈g,a.tmps[e.1]?=some (.bool e.2.2)
structure bN (n:Nat) (X:Nat->Prop) (g:Gh) (r:aC) (h:af) (a:Act) (w:World):Prop where
 cw:CW X g h w
 lz:∀ t gg v,bp r t=some (gg,v) ->
  (di a gg->(∀ e∈gg,e.2.1=e.2.2)/\∃ u,a.tmps[t]?=some u/\aa ⟨g,live X h,w⟩ v u)/\(¬ di a gg->a.tmps[t]?=some undef)
 defers:a.defers=[]
 size:a.tmps.size=n
def Ex.toExit:Ex->Exit
 | .normal=>.normal
 | .exit i=>.exit i
 | .ret=>.ret
structure Holds (P:Program) (n:Nat) (X:Nat->Prop) (c:Code) (Q:Ex->aC->af->Prop) (r:aC) (h:af):Prop where
 holds:∀ g a w,bN n X g r h a w->c.wp P (fun e a' w'=>∃ ex g' r' h',e=Ex.toExit ex/\Q ex r' h'/\bN n X g' r' h' a' w'/\Step X g h w g' h' w') a w
def cw (P:Program) (c:az) (n:Nat) (X:Nat->Prop):Code->(Ex->aC->af->Prop)->aC->af->Prop
 | .skip,Q,r,h=>Q .normal r h
 | .region id ops draw,Q,r,h=>(match draw with
   | false=>lx P c n ops.toList (Q .normal) ops.toList r h
   | true=>(match BU c.EW id with
     | some (ord,fz)=>aP ops.toList ord=true /\
        sz P c n ops.toList (je ops.toList []) (fun r' h'=>tW (fun sA qx=>pk sA (fun r3=>Q .normal r3 qx) c.mM) fz r' h') ord [] r h
     | none=>Holds P n X (.region id ops true) Q r h))
 | .seq a b,Q,r,h=>cw P c n X a (fun e r' h'=>match e with
   | .normal=>cw P c n X b Q r' h'
   | e=>Q e r' h') r h
 | .cond x a b,Q,r,h=>(match aK r [] x with
   | some (.bool t)=>(t=true->cw P c n X a Q r h)/\(t=false->cw P c n X b Q r h)
   | _=>False)
 | .block id a,Q,r,h=>cw P c n X a (fun e r' h'=>match e with
   | .exit i=>(match Nat.beq i id with
     | true=>Q .normal r' h'
     | false=>Q (.exit i) r' h')
   | e=>Q e r' h') r h
 | .loop a,Q,r,h=>Holds P n X (.loop a) Q r h
 | .exit i,Q,r,h=>Q (.exit i) r h
 | .ret,Q,r,h=>Q .ret r h
 | _,_,_,_=>False
end Go.Abs
/-
 The abstract fS,part C: the BP is right,operation by operation.
-/
namespace Go.Abs
open Go
variable {P:Program}
theorem Vd {k:IntKind} {n:Int} (h:Ii k n=true):k.has n:=by
 unfold Ii at h;split at h
 ·simp at h;constructor<;>simp [IntKind.min,IntKind.max,IntKind.signed,IntKind.bits]<;>omega
 ·simp at h;constructor<;>simp [IntKind.min,IntKind.max,IntKind.signed,IntKind.bits]<;>omega
 ·simp at h;constructor<;>simp [IntKind.min,IntKind.max,IntKind.signed,IntKind.bits]<;>omega
 ·simp at h;constructor<;>simp [IntKind.min,IntKind.max,IntKind.signed,IntKind.bits]<;>omega
 ·simp at h;constructor<;>simp [IntKind.min,IntKind.max,IntKind.signed,IntKind.bits]<;>omega
 cases h
theorem Im (c:Cx) {v:Value} {x:AV} (h:oC v=some x):aa c x v:=by
 unfold oC at h;split at h<;>first|(cases h;simp [aa];done)|skip
 ·split at h
  ·rename_i hk;cases h;rw [aa];exact ⟨rfl,Vd hk⟩
  cases h
 ·split at h
  ·rename_i hk;cases h
   rw [aa];refine ⟨_,rfl,rfl,?_⟩;have:=Nat.le_of_ble_eq_true hk;unfold aw;omega
  cases h
 cases h
theorem Io (c:Cx):∀ {vs:List Value} {xs:List AV},sr vs=some xs->ax c xs vs
 | [],xs,h=>by cases h;simp [ax]
 | v::vs,xs,h=>by
   unfold sr at h;cases hv:oC v with
   | none=>simp [hv] at h
   | some a=>
     cases hr:sr vs with
     | none=>simp [hv,hr] at h
     | some b=>
       simp [hv,hr] at h;subst h;simp only [ax];exact ⟨v,vs,rfl,Im c hv,Io c hr⟩
theorem Ip {a:Act}:∀ {g:G} {t:Nat} {w:Bool},BR g t w=true->di a g->a.tmps[t]?=some (.bool w)
 | [],_,_,h,_=>by cases h
 | (t',b,w')::g,t,w,h,hh=>by
   unfold BR at h;split at h
   ·rename_i ht;split at h
    ·rename_i hw;have e1:t'=t:=Nat.eq_of_beq_eq_true ht;have e2:w'=w:=by cases w'<;>cases w<;>simp_all [EU]
     have:=hh (t',b,w') (by simp);simpa [e1,e2] using this
    exact Ip h (fun e he=>hh e (by simp [he]))
   exact Ip h (fun e he=>hh e (by simp [he]))
theorem Iq {a:Act} {g:G} (hh:di a g):∀ {g':G},EV g' g=true->di a g'
 | [],_=>fun e he=>by cases he
 | (t,b,w)::g',h=>by
   unfold EV at h;split at h
   ·rename_i hm;have h1:=Ip hm hh;have h2:=Iq hh h;intro e he;rcases List.mem_cons.1 he with rfl|he
    ·exact h1
    exact h2 e he
   cases h
theorem Ni {a:Act} {t:Nat} {u:Value} (h:a.tmps[t]?=some u):a.eval (.tmp t)=u:=by simp [Act.eval,h]
section
variable {n:Nat} {X:Nat->Prop} {g0:Gh} {r:aC} {h:af} {a:Act} {w:World}
theorem bN.aK (hc:bN n X g0 r h a w) {g:G} (hg:di a g) {x:Operand} {v:AV} (hx:Abs.aK r g x=some v) :
  aa ⟨g0,live X h,w⟩ v (a.eval x):=by
 unfold Abs.aK at hx;split at hx
 ·rename_i t;split at hx
  ·rename_i g' v' hl;split at hx
   ·rename_i hs;cases hx
    obtain ⟨_,u,hu,hr⟩:=(hc.lz _ _ _ hl).1 (Iq hg hs);rw [Ni hu];exact hr
   cases hx
  cases hx
 ·exact Im _ hx
 ·cases hx
  simp only [aa,ax,Act.eval];exact ⟨#[],rfl,rfl⟩
 cases hx
theorem bN.bS (hc:bN n X g0 r h a w) {g:G} (hg:di a g):∀ {xs:List Operand} {vs:List AV},Abs.bS r g xs=some vs ->
  ax ⟨g0,live X h,w⟩ vs (xs.map a.eval)
 | [],vs,h=>by cases h;simp [ax]
 | x::xs,vs,h=>by
   unfold Abs.bS at h;split at h
   ·rename_i v hv;split at h
    ·rename_i U4 lA;cases h
     simp only [ax,List.map_cons];exact ⟨_,_,rfl,hc.aK hg hv,hc.bS hg lA⟩
    cases h
   cases h
end
theorem eh {o:Oper} {a:Act} {w w':World} {u:Value} {next:Act->World->Prop} {Q:Exit->Act->World->Prop}
  (hr:(execOp a.eval o).run P w=.ok (.value u) w') (hn:next (a.put o.dst u) w'):o.wp P a w next Q:=by
 simp only [Oper.wp,hr,Oper.upon];exact hn
theorem Fa {o:Oper} {a:Act} {w w':World} {next:Act->World->Prop} {Q:Exit->Act->World->Prop}
  (hr:(execOp a.eval o).run P w=.ok .skip w') (hn:next (a.put o.dst undef) w'):o.wp P a w next Q:=by
 simp only [Oper.wp,hr,Oper.upon];exact hn
section runs
variable {w:World}
theorem cJ {t:TypeId} {d:TypeDesc} (h:P.underlying t=some d):(underlying t).run P w=.ok d w:=run_underlying h w
theorem Ir {t:TypeId} {b:Bool} (h:nF P t=some b):(isAgg t).run P w=.ok b w/\∃ d,P.underlying t=some d:=by
 unfold nF at h;cases hu:P.underlying t with
 | none=>simp [hu] at h
 | some d=>
   refine ⟨?_,d,rfl⟩;unfold isAgg;simp only [Sem.run_bind,cJ hu,Result.andThen];simp only [hu] at h;cases d<;>simp_all
theorem pn {t:TypeId} {i:TypeInfo} (h:P.info? t=some i):(Go.sizeOf t).run P w=.ok (P.cellsOf t) w:=by simp [Go.sizeOf,typeInfo,h,Program.cellsOf]
theorem Nj {t:TypeId} {d:TypeDesc} (h:P.underlying t=some d):∃ i,P.info? t=some i:=by
 unfold Program.underlying at h;cases hi:P.info? t with
 | none=>simp [hi] at h
 | some i=>exact ⟨i,rfl⟩
theorem bA.load {c:Cx}:∀ {cs:List AV} {b o:Nat},bA c cs b o ->
  ∃ us:List Value,us.length=cs.length/\(∀ j u,us[j]?=some u->c.w.cell? ⟨b,o+j,none⟩=some u/\u.oneCell'=true)/\ax c cs us
 | [],b,o,_=>⟨[],rfl,by simp,by simp [ax]⟩
 | x::cs,b,o,h=>by
   simp only [bA] at h;obtain ⟨⟨u,h1,h2,h3,h4⟩,h5⟩:=h;obtain ⟨us,e1,e2,e3⟩:=bA.load h5;refine ⟨u::us,by simp [e1],?_,?_⟩
   ·intro j v hv;cases j with
    | zero=>simp at hv;subst hv;exact ⟨h1,h2⟩
    | succ j=>
      simp at hv;have:=e2 j v hv;rw [show o+(j+1)=o+1+j from by omega];exact this
   simp only [ax];exact ⟨u,us,rfl,h4,e3⟩
theorem Fb:∀ {n:Nat} {cs l:List AV},takeN n cs=some l->n<=cs.length/\l=cs.take n
 | 0,cs,l,h=>by simp [takeN] at h;subst h;simp
 | n+1,[],l,h=>by simp [takeN] at h
 | n+1,x::cs,l,h=>by
   unfold takeN at h;cases ht:takeN n cs with
   | none=>simp [ht] at h
   | some m=>
     simp [ht] at h;obtain ⟨h1,h2⟩:=Fb ht;subst h2;subst h;simp;omega
theorem yf:∀ {n:Nat} {cs l:List AV},jd n cs=some l->n<=cs.length/\l=cs.drop n
 | 0,cs,l,h=>by simp [jd] at h;subst h;simp
 | n+1,[],l,h=>by simp [jd] at h
 | n+1,x::cs,l,h=>by unfold jd at h;obtain ⟨h1,h2⟩:=yf h;subst h2;simp;omega
theorem bA.drop {c:Cx}:∀ (n:Nat) {cs:List AV} {b o:Nat},n<=cs.length->bA c cs b o->bA c (cs.drop n) b (o+n)
 | 0,cs,b,o,_,h=>by simpa using h
 | n+1,[],b,o,hn,h=>by simp at hn
 | n+1,x::cs,b,o,hn,h=>by simp only [bA] at h;have:=bA.drop n (by simpa using hn) h.2;simpa [Nat.add_assoc,Nat.add_comm 1 n] using this
theorem bA.take {c:Cx}:∀ (n:Nat) {cs:List AV} {b o:Nat},bA c cs b o->bA c (cs.take n) b o
 | 0,cs,b,o,_=>by simp [bA]
 | n+1,[],b,o,_=>by simp [bA]
 | n+1,x::cs,b,o,h=>by simp only [bA,List.take_succ_cons] at h ⊢;exact ⟨h.1,bA.take n h.2⟩
theorem ax.length {c:Cx}:∀ {xs:List AV} {us:List Value},ax c xs us->us.length=xs.length
 | [],us,h=>by simp [ax] at h;subst h;rfl
 | x::xs,us,h=>by simp only [ax] at h;obtain ⟨u,r,rfl,_,h2⟩:=h;simp [ax.length h2]
theorem ax.drop {c:Cx}:∀ (n:Nat) {xs:List AV} {us:List Value},ax c xs us->ax c (xs.drop n) (us.drop n)
 | 0,xs,us,h=>by simpa using h
 | n+1,[],us,h=>by simp [ax] at h;subst h;simp [ax]
 | n+1,x::xs,us,h=>by simp only [ax] at h;obtain ⟨u,r,rfl,_,h2⟩:=h;simpa using ax.drop n h2
theorem ax.take {c:Cx}:∀ (n:Nat) {xs:List AV} {us:List Value},ax c xs us->ax c (xs.take n) (us.take n)
 | 0,xs,us,h=>by simp [ax]
 | n+1,[],us,h=>by simp [ax] at h;subst h;simp [ax]
 | n+1,x::xs,us,h=>by simp only [ax] at h;obtain ⟨u,r,rfl,h1,h2⟩:=h;simp only [List.take_succ_cons,ax];exact ⟨u,_,rfl,h1,ax.take n h2⟩
theorem ax.append {c:Cx}:∀ {xs ys:List AV} {us vs:List Value},ax c xs us->ax c ys vs->ax c (xs++ys) (us++vs)
 | [],ys,us,vs,h,h'=>by simp [ax] at h;subst h;simpa using h'
 | x::xs,ys,us,vs,h,h'=>by simp only [ax] at h;obtain ⟨u,r,rfl,h1,h2⟩:=h;simp only [List.cons_append,ax];exact ⟨u,_,rfl,h1,ax.append h2 h'⟩
theorem Nk {t:TypeId} {c:Cx} {cs:List AV} {b o:Nat} {us:List Value} (h2:∀ j u,us[j]?=some u->c.w.cell? ⟨b,o+j,none⟩=some u)
  (oE:∀ (j:Nat) (u:Value),us[j]?=some u->u.oneCell'=true) (h3:ax c cs us) {K:AV->Prop} (hk:gy P t cs K) :
  ∃ v u,K v/\aa c v u/\(loadVar t ⟨b,o,none⟩).run P c.w=.ok u c.w:=by
 unfold gy at hk;unfold loadVar;cases uW:nF P t with
 | none=>simp [uW] at hk
 | some bb=>
 obtain ⟨Fc,d,hd⟩:=Ir (w:=c.w) uW;obtain ⟨i,hi⟩:=Nj hd;simp only [Sem.run_bind,Fc,Result.andThen];cases bb with
 | true=>
   simp only [uW] at hk;cases ht:takeN (P.cellsOf t) cs with
   | none=>simp [ht] at hk
   | some l=>
     simp only [ht] at hk;obtain ⟨h1,rfl⟩:=Fb ht;have hlen:=h3.length;have hl:(us.take (P.cellsOf t)).length=P.cellsOf t:=by rw [List.length_take];omega
     have bx:=run_loadCells_list (P:=P) (w:=c.w) ⟨b,o,none⟩ (us.take (P.cellsOf t)) (fun j v hv=>by
      have hj:us[j]?=some v:=by
       rw [List.getElem?_take] at hv;split at hv
       ·exact hv
       cases hv
      have:=h2 j v hj;cases j with
      | zero=>simpa [Addr.add] using this
      | succ j=>simpa [Addr.add] using this)
     refine ⟨_,.agg (us.take (P.cellsOf t)).toArray,hk,?_,?_⟩
     ·rw [aa];refine ⟨_,rfl,fun u hu=>?_,by simpa using ax.take (P.cellsOf t) h3⟩;obtain ⟨j,hj⟩:=List.mem_iff_getElem?.1 (List.mem_of_mem_take (by simpa using hu));exact oE j u hj
     simp only [if_true,pn hi,Result.andThen,Sem.run_bind];rw [hl] at bx;simp [bx]
 | false=>
   simp only [uW] at hk;cases cs with
   | nil=>simp at hk
   | cons x cs=>
     simp only [ax] at h3;obtain ⟨u,r,rfl,h4,_⟩:=h3;have:=h2 0 u (by simp);exact ⟨x,u,hk,h4,by simp at this;simp [this]⟩
theorem Ve {t:TypeId} {c:Cx} {cs:List AV} {b o:Nat} (bV:bA c cs b o) {K:AV->Prop} (hk:gy P t cs K) :
  ∃ v u,K v/\aa c v u/\(loadVar t ⟨b,o,none⟩).run P c.w=.ok u c.w:=by
 obtain ⟨us,e1,e2,e3⟩:=bA.load bV;exact Nk (fun j u hu=>(e2 j u hu).1) (fun j u hu=>(e2 j u hu).2) e3 hk
theorem Vf {c:Cx} {b:Nat} {cs:List AV} (h:oB c b (.vec cs)):∃ p,c.g.pl b=some p/\p.spot=none /\
  ∃ us:List Value,us.length=cs.length/\(∀ (j:Nat) (u:Value),us[j]?=some u->c.w.cell? ⟨p.block,p.off+j,none⟩=some u)/\(∀ (j:Nat) (u:Value),us[j]?=some u->u.oneCell'=true)/\ax c cs us:=by
 obtain ⟨p,cc,t,h1,h2,h3,h4,h5,h6⟩:=h;refine ⟨p,h1,h2,(cc.toList.drop p.off).take cs.length,by simp;omega,?_,?_,?_⟩
 ·intro j u hu;rw [List.getElem?_take] at hu;split at hu
  ·simp only [List.getElem?_drop,Array.getElem?_toList] at hu;simp [World.cell?,h4,hu]
  cases hu
 ·intro j u hu;rw [List.getElem?_take] at hu;split at hu
  ·rename_i hj;obtain ⟨u',e,o1,_⟩:=h6 j cs[j] (by simp [hj]);simp only [List.getElem?_drop,Array.getElem?_toList] at hu;rw [e] at hu;cases hu;exact o1
  cases hu
 clear h3
 have key:∀ (xs:List AV) (l:List Value),xs.length<=l.length->(∀ (i:Nat) (x:AV),xs[i]?=some x->∃ u,l[i]?=some u/\aa c x u)->ax c xs (l.take xs.length):=by
  intro xs;induction xs with
  | nil=>intro l _ _;simp [ax]
  | cons x xs ih=>
    intro l hl hx;cases l with
    | nil=>simp at hl
    | cons u l=>
      simp only [List.length_cons,List.take_succ_cons,ax];obtain ⟨u',e,r⟩:=hx 0 x (by simp);simp at e;subst e;exact ⟨u,_,rfl,r,ih l (by simpa using hl) (fun i y hy=>hx (i+1) y (by simpa using hy))⟩
 refine key cs _ (by simp;omega) (fun i x hx=>?_);obtain ⟨u,e,_,r⟩:=h6 i x hx;exact ⟨u,by simp [e],r⟩
theorem BV {c:Cx} {g:G} (he:∀ e∈g,e.2.1=e.2.2) {k:IntKind} {m:Int} {K:AV->Prop} (h:arith g k m K) :
  ∃ v,K v/\aa c v (.int k (k.wrap m)):=by
 have out:∀ {p:Prop},gP g p->p:=by
  intro p hp;clear h;induction g with
  | nil=>exact hp
  | cons e g ih=>exact ih (fun e' h'=>he e' (by simp [h'])) (hp (he e (by simp)))
 unfold arith at h;cases k with
 | i64=>
   obtain ⟨h1,h2⟩:=h;have h1:=out h1;refine ⟨_,h2,?_⟩;rw [aa,IntWalk.i64_in _ h1];exact ⟨rfl,by constructor<;>simp [IntKind.min,IntKind.max,IntKind.signed,IntKind.bits]<;>omega⟩
 | i32=>
   obtain ⟨h1,h2⟩:=h;have h1:=out h1;refine ⟨_,h2,?_⟩;rw [aa,IntWalk.i32_in _ h1];exact ⟨rfl,by constructor<;>simp [IntKind.min,IntKind.max,IntKind.signed,IntKind.bits]<;>omega⟩
 | _=>
   refine ⟨_,h,?_⟩;rw [aa];refine ⟨rfl,?_⟩;constructor<;>simp [IntKind.min,IntKind.max,IntKind.wrap,IntKind.signed,IntKind.bits]<;>(try split)<;>omega
theorem sB {α:Type} [BEq α] [LawfulBEq α] [DecidableEq α] (a b:α):(a == b)=decide (a=b):=by rw [Bool.eq_iff_iff];simp
theorem Nl {t:TypeId} (h:P.underlying t=some .bool) (a b:Bool):(Op.equal t (.bool a) (.bool b)).run P w=.ok (a == b) w:=by show (Op.equalIn (9999+1) t (.bool a) (.bool b)).run P w=_;unfold Op.equalIn;simp only [Sem.run_bind,cJ h,Result.andThen];rfl
theorem yg {t e:TypeId} (h:P.underlying t=some (.slice e)) (b:Option Addr) (n c:Nat):(Op.equal t (.slice b n c) (.slice none 0 0)).run P w=.ok b.isNone w:=by show (Op.equalIn (9999+1) t (.slice b n c) (.slice none 0 0)).run P w=_;unfold Op.equalIn;simp only [Sem.run_bind,cJ h,Result.andThen];cases b<;>rfl
theorem Fe {t e:TypeId} (h:P.underlying t=some (.pointer e)) (b:Option Addr):(Op.equal t (.pointer b) (.pointer none)).run P w=.ok b.isNone w:=by show (Op.equalIn (9999+1) t (.pointer b) (.pointer none)).run P w=_;unfold Op.equalIn;simp only [Sem.run_bind,cJ h,Result.andThen];cases b<;>rfl
theorem ft {op:BinOp} {t:TypeId} {x y:Operand} {u v:Value} (h:∀ cs,u≠.agg cs) (h':u≠.nilIface):(eqGuard op t x y u v).run P w=.ok () w:=by unfold eqGuard;cases op<;>simp<;>cases u<;>simp_all
end runs
theorem eN.mono {c c':Cx} (hc:Cx.Le c c'):∀ {es:List (AV × AV)} {al:List MapEntry},eN c es al->eN c' es al
 | [],_,h=>h
 | x::xs,es,h=>by obtain ⟨e,r,rfl,h1,h2,h3⟩:=h;exact ⟨e,r,rfl,aa.mono hc _ _ h1,aa.mono hc _ _ h2,eN.mono hc h3⟩
theorem oB.mM {c c':Cx} (hc:Cx.Le c c') {k:Nat} {o:Ob} (h:oB c k o)
  (hb:∀ p,c.g.pl k=some p->(∃ s,c.g.ow p.block=some (k,s))->c'.w.heap[p.block]?=c.w.heap[p.block]?/\c'.g.ow p.block=c.g.ow p.block)
  (hn:c.g.pl k=none->c'.g.pl k=none):oB c' k o:=by
 cases o with
 | vec cs=>
   obtain ⟨p,cc,t,h1,h2,h3,h4,h5,h6⟩:=h;obtain ⟨e1,e2⟩:=hb p h1 ⟨_,h3⟩;exact ⟨p,cc,t,hc.pl _ _ h1,h2,e2.trans h3,e1.trans h4,h5,fun i x hx=>let ⟨u,a,b,r⟩:=h6 i x hx;⟨u,a,b,aa.mono hc _ _ r⟩⟩
 | tok=>
   intro p hp;cases hq:c.g.pl k with
   | none=>rw [hn hq] at hp;cases hp
   | some q=>
     have:=hc.pl _ _ hq;rw [this] at hp;cases hp
     obtain ⟨h1,h2,h3⟩:=h p hq;obtain ⟨e1,e2⟩:=hb p hq ⟨_,h2⟩;exact ⟨h1,e2.trans h2,by rw [e1];exact h3⟩
 | map es=>
   obtain ⟨p,cl,al,h1,h2,h3,h4,h5,h6⟩:=h;obtain ⟨e1,e2⟩:=hb p h1 ⟨_,h2⟩;exact ⟨p,cl,al,hc.pl _ _ h1,e2.trans h2,e1.trans h3,eN.mono hc h4,h5,h6⟩
 | uP es bs cl=>
   obtain ⟨p,al,h1,h2,h3,h4,h5,h6⟩:=h;obtain ⟨e1,e2⟩:=hb p h1 ⟨_,h2⟩;exact ⟨p,al,hc.pl _ _ h1,e2.trans h2,e1.trans h3,eN.mono hc h4,h5,h6⟩
 | iter m cl seen=>
   obtain ⟨p,pm,sa,h1,h2,h3,h4,h5⟩:=h;obtain ⟨e1,e2⟩:=hb p h1 ⟨_,h2⟩;exact ⟨p,pm,sa,hc.pl _ _ h1,e2.trans h2,e1.trans h3,hc.pl _ _ h4,h5⟩
 | oA s pos=>
   obtain ⟨p,b,h1,h2,h3,h4,h5⟩:=h;obtain ⟨e1,e2⟩:=hb p h1 ⟨_,h2⟩;exact ⟨p,b,hc.pl _ _ h1,e2.trans h2,e1.trans h3,h4,h5⟩
theorem Af (w:World) (o:Obj) {b:Nat} (h:b<w.heap.size):(w.alloc o).heap[b]?=w.heap[b]?:=by simp only [World.alloc,Array.getElem?_push];rw [if_neg (by omega)]
theorem CW.alloc {X:Nat->Prop} {g:Gh} {h:af} {w:World} (hc:CW X g h w) (o:Obj):CW X g h (w.alloc o)/\Step X g h w g h (w.alloc o):=by
 have hs:Step X g h w g h (w.alloc o):=by
  refine ⟨rfl,⟨rfl,Nat.le_refl _⟩,rfl,by simp,fun _ _ e=>e,fun _ _ _ e _=>e,fun _ _ _ e _=>e,fun _ _ e=>e,fun b hb e=>⟨Af w o hb,e⟩,?_,?_⟩
  ·intro b k s ho hk cc t f bG;exact ⟨cc,(Af w o (hc.own _ _ _ ho)).trans bG,rfl,fun _ _=>rfl⟩
  intro b k s e _ k' s' e' _;rw [e] at e';cases e';exact Nat.le_refl _
 refine ⟨⟨fun b k s e=>Nat.lt_of_lt_of_le (hc.own b k s e) hs.size,hc.bound,hc.nodup,hc.sep,fun k ob hk=>?_⟩,hs⟩;refine oB.mM (Step.le hs) (hc.obj k ob hk) (fun p hp ⟨s,ho⟩=>⟨Af w o (hc.own _ _ _ ho),rfl⟩) (fun e=>e)
theorem CW.drew {X:Nat->Prop} {g:Gh} {h:af} {w:World} (hc:CW X g h w):CW X g h w.drew/\Step X g h w g h w.drew:=by
 have hs:Step X g h w g h w.drew:=⟨rfl,⟨rfl,Nat.le_succ _⟩,rfl,Nat.le_refl _,fun _ _ e=>e,fun _ _ _ e _=>e,fun _ _ _ e _=>e,fun _ _ e=>e,fun b hb e=>⟨rfl,e⟩,
  fun b k s ho hk cc t f bG=>⟨cc,bG,rfl,fun _ _=>rfl⟩,fun b k s e _ k' s' e' _=>by rw [e] at e';cases e';exact Nat.le_refl _⟩
 exact ⟨⟨hc.own,hc.bound,hc.nodup,hc.sep,fun k ob hk=>oB.mM (Step.le hs) (hc.obj k ob hk) (fun p hp ho=>⟨rfl,rfl⟩) (fun e=>e)⟩,hs⟩
theorem bA.new {X:Nat->Prop} {g:Gh} {h:af} {w:World} (hc:CW X g h w) {cs:List AV} {us:Array Value} {t:TypeId}
  (hr:ax ⟨g,live X h,w⟩ cs us.toList) (h1:∀ u∈us,u.oneCell'=true):bA ⟨g,live X h,w.alloc (.cells us t)⟩ cs w.heap.size 0:=by
 have hs:=(hc.alloc (.cells us t)).2
 have key:∀ (cs:List AV) (l:List Value) (o:Nat),ax ⟨g,live X h,w⟩ cs l->(∀ j u,l[j]?=some u->us[o+j]?=some u) ->
   bA ⟨g,live X h,w.alloc (.cells us t)⟩ cs w.heap.size o:=by
  intro cs;induction cs with
  | nil=>intros;simp [bA]
  | cons x cs ih=>
    intro l o hv hl;simp only [ax] at hv;obtain ⟨u,r,rfl,h2,h3⟩:=hv;simp only [bA];have hu:us[o]?=some u:=(by simpa using hl 0 u (by simp));refine ⟨⟨u,by simp [hu],h1 u (Array.mem_of_getElem? hu),?_,aa.mono (Step.le hs) _ _ h2⟩,ih r (o+1) h3 (fun j v hv=>?_)⟩
    ·intro k s ho _;exact absurd (hc.own _ _ _ ho) (Nat.lt_irrefl _)
    have:=hl (j+1) v (by simpa using hv);rw [show o+1+j=o+(j+1) from by omega];exact this
 exact key cs us.toList 0 hr (by intro j u hu;simpa using hu)
end Go.Abs
/-
 The abstract fS,part C2: U5 of plain values and of structs of U6;keys.
-/
set_option linter.unusedSimpArgs false
namespace Go.Abs
open Go
variable {P:Program} {w:World}
theorem Is {k k':IntKind} (h:Ij k k'=true):k=k':=by cases k<;>cases k'<;>first|rfl|(simp [Ij] at h)
theorem BW {c:Cx} {t:TypeId} {x y:AV} {u v:Value} {b:Bool} (h:qq P t x y=some b) (hu:aa c x u) (hv:aa c y v) (d:Nat) :
  (Op.equalIn (d+1) t u v).run P w=.ok b w/\nF P t=some false/\(∀ fs,P.underlying t≠some (.struct fs))/\(Op.eqGuardIn (d+1) t u v).run P w=.ok false w:=by
 unfold qq at h;split at h
 ·rename_i k1 k a k' b' bg;split at h<;>try contradiction
  rename_i hk;have hk:=Is hk;subst hk;cases h
  rw [aa] at hu hv;obtain ⟨rfl,_⟩:=hu;obtain ⟨rfl,_⟩:=hv;refine ⟨?_,by simp [nF,bg],by simp [bg],?_⟩
  ·simp [Op.equalIn,cJ bg,sB]
  simp [Op.eqGuardIn,cJ bg]
 ·rename_i a b' bg;cases h
  rw [aa] at hu hv;obtain ⟨b,rfl,rfl,_⟩:=hu;obtain ⟨b',rfl,rfl,_⟩:=hv;refine ⟨?_,by simp [nF,bg],by simp [bg],?_⟩
  ·have e:(b == b')=decide (b.data.toList=b'.data.toList):=by
    rw [Bool.eq_iff_iff];obtain ⟨⟨l⟩⟩:=b;obtain ⟨⟨l'⟩⟩:=b';show ((Array.mk l) == (Array.mk l'))=true↔_;simp
   simp only [Op.equalIn,cJ bg,Sem.run_bind,Result.andThen,Sem.run_pure,e]
  simp [Op.eqGuardIn,cJ bg]
 ·rename_i a b' bg;cases h
  rw [aa] at hu hv;subst hu;subst hv;refine ⟨?_,by simp [nF,bg],by simp [bg],?_⟩
  ·simp [Op.equalIn,cJ bg,sB]
  simp [Op.eqGuardIn,cJ bg]
 cases h
theorem ax.get {c:Cx}:∀ {xs:List AV} {us:List Value},ax c xs us->∀ (i:Nat) (x:AV),xs[i]?=some x->∃ u,us[i]?=some u/\aa c x u
 | [],us,h,i,x,hx=>by simp at hx
 | y::xs,us,h,i,x,hx=>by
   simp only [ax] at h;obtain ⟨u,r,rfl,h1,h2⟩:=h;cases i with
   | zero=>simp at hx;subst hx;exact ⟨u,by simp,h1⟩
   | succ i=>exact ax.get h2 i x (by simpa using hx)
theorem tX {t:TypeId} {cs:Array Value} {off:Nat} {u:Value} (Vg:nF P t=some false) (h:cs[off]?=some u):(part t cs off).run P w=.ok u w:=by obtain ⟨bx,_⟩:=Ir (w:=w) Vg;simp [part,bx,h]
theorem Nn {c:Cx} {d:Nat} {us vs:Array Value}:∀ {fs:List Field} {i:Nat} {xs ys:List AV} {b:Bool},oD P i fs xs ys=some b->fs.all (fun f=>!(f.name == "_"))=true ->
  (∀ j x,xs[j]?=some x->∃ u,us[i+j]?=some u/\aa c x u)->(∀ j x,ys[j]?=some x->∃ u,vs[i+j]?=some u/\aa c x u) ->
  (Op.eqFields (d+1) us vs fs).run P w=.ok b w
 | [],i,xs,ys,b,h,hn,hx,hy=>by
   cases xs<;>cases ys<;>simp [oD] at h
   subst h;simp [Op.eqFields]
 | f::fs,i,[],ys,b,h,hn,hx,hy=>by simp [oD] at h
 | f::fs,i,x::xs,[],b,h,hn,hx,hy=>by simp [oD] at h
 | f::fs,i,x::xs,y::ys,b,h,hn,hx,hy=>by
   unfold oD at h;split at h<;>try contradiction
   rename_i sC;split at h<;>try contradiction
   rename_i b1 h1;split at h<;>try contradiction
   rename_i b2 h2;cases h
   have sC:=Nat.eq_of_beq_eq_true sC;obtain ⟨u,hu,mj⟩:=hx 0 x (by simp);obtain ⟨v,hv,nG⟩:=hy 0 y (by simp);simp only [Nat.add_zero,<- sC] at hu hv;obtain ⟨e1,e2,_,_⟩:=BW (w:=w) h1 mj nG d;simp only [List.all_cons,Bool.and_eq_true,Bool.not_eq_true',beq_eq_false_iff_ne] at hn
   have ih:=Nn (d:=d) h2 (by simpa using hn.2)
    (fun j z hz=>by have:=hx (j+1) z (by simpa using hz);rwa [show i+1+j=i+(j+1) from by omega])
    (fun j z hz=>by have:=hy (j+1) z (by simpa using hz);rwa [show i+1+j=i+(j+1) from by omega])
   unfold Op.eqFields;cases b1 with
   | false=>simp [hn.1,tX e2 hu,tX e2 hv,e1]
   | true=>simp [hn.1,tX e2 hu,tX e2 hv,e1,ih]
theorem Np {c:Cx} {d:Nat} {e:TypeId} {us vs:Array Value}:∀ {i:Nat} {xs ys:List AV} {b:Bool},rm P e xs ys=some b ->
  (∀ j x,xs[j]?=some x->∃ u,us[i+j]?=some u/\aa c x u)->(∀ j x,ys[j]?=some x->∃ u,vs[i+j]?=some u/\aa c x u) ->
  (Op.eqItems (d+1) e 1 us vs (List.range' i xs.length)).run P w=.ok b w
 | i,[],ys,b,h,hx,hy=>by
   cases ys<;>simp [rm] at h
   subst h;simp [Op.eqItems]
 | i,x::xs,[],b,h,hx,hy=>by simp [rm] at h
 | i,x::xs,y::ys,b,h,hx,hy=>by
   unfold rm at h;split at h<;>try contradiction
   rename_i b1 h1;split at h<;>try contradiction
   rename_i b2 h2;cases h
   obtain ⟨u,hu,mj⟩:=hx 0 x (by simp);obtain ⟨v,hv,nG⟩:=hy 0 y (by simp);simp only [Nat.add_zero] at hu hv;obtain ⟨e1,e2,_,_⟩:=BW (w:=w) h1 mj nG d
   have ih:=Np (d:=d) h2
    (fun j z hz=>by have:=hx (j+1) z (by simpa using hz);rwa [show i+1+j=i+(j+1) from by omega])
    (fun j z hz=>by have:=hy (j+1) z (by simpa using hz);rwa [show i+1+j=i+(j+1) from by omega])
   rw [List.length_cons,List.range'_succ];unfold Op.eqItems;cases b1 with
   | false=>simp [tX e2 hu,tX e2 hv,e1]
   | true=>simp [tX e2 hu,tX e2 hv,e1,ih]
theorem Ff {c:Cx} {t:TypeId} {x y:AV} {u v:Value} {b:Bool} (h:jK P t x y=some b) (hp:qt P t=true) (hu:aa c x u) (hv:aa c y v) (d:Nat) :
  (Op.equalIn (d+2) t u v).run P w=.ok b w/\((∃ us vs,u=.agg us/\v=.agg vs/\P.eqGuardType P.depth t=false/\nF P t=some true)\/qq P t x y=some b):=by
 unfold jK at h;split at h
 ·rename_i fs bg;split at h<;>try contradiction
  rename_i xs ys;simp only [qt,bg,Bool.and_eq_true,Bool.not_eq_true'] at hp;rw [aa] at hu hv;obtain ⟨us,rfl,_,bd⟩:=hu;obtain ⟨vs,rfl,_,lA⟩:=hv;have hf:P.fieldsOf t=fs:=(by simp [Program.fieldsOf,bg]);refine ⟨?_,.inl ⟨us,vs,rfl,rfl,hp.2,by simp [nF,bg]⟩⟩;rw [run_equalIn_struct w (d+1) t us vs (by rw [hf];exact bg) hp.1.2,hf]
  exact Nn h hp.1.1 (fun j z hz=>by obtain ⟨u,h1,h2⟩:=bd.get j z hz;exact ⟨u,by simpa using h1,h2⟩)
   (fun j z hz=>by obtain ⟨u,h1,h2⟩:=lA.get j z hz;exact ⟨u,by simpa using h1,h2⟩)
 ·rename_i n e bg;split at h<;>try contradiction
  rename_i xs ys;split at h<;>try contradiction
  rename_i ie hl eO bC;simp only [qt,bg,Bool.not_eq_true'] at hp;have hl:=Nat.eq_of_beq_eq_true hl;have eO:=Nat.eq_of_beq_eq_true eO;rw [aa] at hu hv;obtain ⟨us,rfl,_,bd⟩:=hu;obtain ⟨vs,rfl,_,lA⟩:=hv;refine ⟨?_,.inl ⟨us,vs,rfl,rfl,hp,by simp [nF,bg]⟩⟩;rw [run_equalIn_array (w:=w) (d+1) us vs bg bC,eO,<- hl,List.range_eq_range']
  exact Np h (fun j z hz=>by obtain ⟨u,h1,h2⟩:=bd.get j z hz;exact ⟨u,by simpa using h1,h2⟩)
   (fun j z hz=>by obtain ⟨u,h1,h2⟩:=lA.get j z hz;exact ⟨u,by simpa using h1,h2⟩)
 ·exact ⟨(BW h hu hv (d+1)).1,.inr h⟩
 cases h
end Go.Abs
/-
 The abstract fS,part C3: maps.
-/
namespace Go.Abs
open Go
variable {P:Program} {w:World}
theorem Iu {t:TypeId} {x:AV} {u:Value} {b:Bool} {y:AV} (h:qq P t x y=some b) (e:Bool) (n:Nat):(Instr.checkKey e (n+1) t u).run P w=.ok () w:=by
 unfold qq at h;split at h
 ·rename_i bg;simp [Instr.checkKey,cJ bg]
 ·rename_i bg;simp [Instr.checkKey,cJ bg]
 ·rename_i bg;simp [Instr.checkKey,cJ bg]
 cases h
theorem Nq {c:Cx} {n:Nat} {em:Bool} {us:Array Value}:∀ {fs:List Field} {i:Nat} {xs:List AV},oD P i fs xs xs=some true ->
  (∀ j x,xs[j]?=some x->∃ u,us[i+j]?=some u/\aa c x u) ->
  (forIn (m:=Sem) fs PUnit.unit fun f (r:PUnit)=>(if f.name ≠ "_" then do
     Instr.checkKey em (n+1) f.type (<- part f.type us f.offset)
     pure (ForInStep.yield PUnit.unit) else pure (ForInStep.yield PUnit.unit):Sem (ForInStep PUnit))).run P w=.ok PUnit.unit w
 | [],i,xs,h,hx=>by simp
 | f::fs,i,[],h,hx=>by simp [oD] at h
 | f::fs,i,x::xs,h,hx=>by
   unfold oD at h;split at h<;>try contradiction
   rename_i sC;split at h<;>try contradiction
   rename_i b1 h1;split at h<;>try contradiction
   rename_i b2 h2;have sC:=Nat.eq_of_beq_eq_true sC;have hb:b2=true:=by cases b1<;>cases b2<;>simp_all
   subst hb;obtain ⟨u,hu,mj⟩:=hx 0 x (by simp);simp only [Nat.add_zero,<- sC] at hu;obtain ⟨e1,e2,_,_⟩:=BW (w:=w) h1 mj mj 0
   have ih:=Nq (n:=n) (em:=em) h2
    (fun j z hz=>by have:=hx (j+1) z (by simpa using hz);rwa [show i+1+j=i+(j+1) from by omega])
   rw [List.forIn_cons];by_cases hn:f.name = "_"
   ·simp [hn];simpa using ih
   simp [hn,tX e2 hu,Iu h1];simpa using ih
theorem Nr {c:Cx} {n:Nat} {em:Bool} {e:TypeId} {ie:TypeInfo} {us:Array Value} (bC:P.info? e=some ie) (h1:ie.size=1):∀ {xs:List AV} {i:Nat},rm P e xs xs=some true ->
  (∀ j x,xs[j]?=some x->∃ u,us[i+j]?=some u/\aa c x u) ->
  (forIn (m:=Sem) (List.range' i xs.length) PUnit.unit fun i (r:PUnit)=>(do
     Instr.checkKey em (n+1) e (<- part e us (i*(<- sizeOf e)))
     pure (ForInStep.yield PUnit.unit):Sem (ForInStep PUnit))).run P w=.ok PUnit.unit w
 | [],i,h,hx=>by simp
 | x::xs,i,h,hx=>by
   unfold rm at h;split at h<;>try contradiction
   rename_i b1 Ag;split at h<;>try contradiction
   rename_i b2 BX;have hb:b2=true:=by cases b1<;>cases b2<;>simp_all
   subst hb;obtain ⟨u,hu,mj⟩:=hx 0 x (by simp);simp only [Nat.add_zero] at hu;obtain ⟨e1,e2,_,_⟩:=BW (w:=w) Ag mj mj 0
   have ih:=Nr (n:=n) (em:=em) bC h1 BX
    (fun j z hz=>by have:=hx (j+1) z (by simpa using hz);rwa [show i+1+j=i+(j+1) from by omega])
   rw [List.length_cons,List.range'_succ,List.forIn_cons];have hs:(sizeOf e).run P w=.ok 1 w:=(by simp [sizeOf,typeInfo,bC,h1]);simp [hs,tX e2 hu,Iu Ag];simpa using ih
theorem Iv {c:Cx} {t:TypeId} {k:AV} {u:Value} (hk:ss P t k) (hu:aa c k u) (em:Bool) (n:Nat):(Instr.checkKey em (n+2) t u).run P w=.ok () w:=by
 obtain ⟨hp,he⟩:=hk;unfold jK at he;split at he
 ·rename_i fs bg;split at he<;>try contradiction
  rename_i xs ys _ _;rw [aa] at hu;obtain ⟨us,rfl,_,bd⟩:=hu;rw [Instr.checkKey];simp only [Sem.run_bind,cJ bg,Result.andThen_ok];rw [<- Array.forIn_toList];have:=Nq (c:=c) (P:=P) (w:=w) (n:=n) (em:=em) (us:=us) he (fun j z hz=>by obtain ⟨u,h1,h2⟩:=bd.get j z hz;exact ⟨u,by simpa using h1,h2⟩);simp at this ⊢;rw [this];rfl
 ·rename_i m e bg;split at he<;>try contradiction
  rename_i xs ys _ _;split at he<;>try contradiction
  rename_i ie hl eO bC;have hl:=Nat.eq_of_beq_eq_true hl;have eO:=Nat.eq_of_beq_eq_true eO;rw [aa] at hu;obtain ⟨us,rfl,_,bd⟩:=hu;rw [Instr.checkKey];simp only [Sem.run_bind,cJ bg,Result.andThen_ok];simp only [Std.Legacy.Range.forIn_eq_forIn_range',Std.Legacy.Range.size,Nat.sub_zero,Nat.add_one_sub_one,Nat.div_one];have:=Nr (c:=c) (P:=P) (w:=w) (n:=n) (em:=em) (us:=us) bC (by simpa [Program.cellsOf,bC] using eO) (i:=0) he (fun j z hz=>by obtain ⟨u,h1,h2⟩:=bd.get j z hz;exact ⟨u,by simpa using h1,h2⟩);rw [<- hl];simp at this ⊢;rw [this];rfl
 ·exact Iu he em (n+1)
 cases he
theorem Iw {c:Cx} {t:TypeId} {x y:AV} {u v:Value} (h:qq P t x y=some true) (hu:aa c x u) (hv:aa c y v) (n:Nat):Instr.sameBits n v u=true:=by
 unfold qq at h;split at h
 ·split at h<;>try contradiction
  rename_i hk;have hk:=Is hk;subst hk;simp at h;subst h;rw [aa] at hu hv;obtain ⟨rfl,_⟩:=hu;obtain ⟨rfl,_⟩:=hv;unfold Instr.sameBits;simp
 ·simp at h;subst h;rw [aa] at hu hv;obtain ⟨b,rfl,rfl,_⟩:=hu;obtain ⟨b',rfl,hb,_⟩:=hv;have:b'=b:=by obtain ⟨⟨l⟩⟩:=b;obtain ⟨⟨l'⟩⟩:=b';simp at hb;subst hb;rfl
  subst this;unfold Instr.sameBits;rw [beq_toListBytes];simp
 ·simp at h;subst h;rw [aa] at hu hv;subst hu;subst hv;unfold Instr.sameBits;simp
 cases h
theorem Ns {c:Cx} {n:Nat}:∀ {fs:List Field} {i:Nat} {xs ys:List AV} {us vs:List Value},oD P i fs xs ys=some true->ax c xs us->ax c ys vs ->
  us.length=vs.length/\((vs.zip us).all fun (x,y)=>Instr.sameBits n x y)=true
 | [],i,xs,ys,us,vs,h,hx,hy=>by
   cases xs<;>cases ys<;>simp [oD] at h
   simp [ax] at hx hy;subst hx;subst hy;simp
 | f::fs,i,[],ys,us,vs,h,hx,hy=>by simp [oD] at h
 | f::fs,i,x::xs,[],us,vs,h,hx,hy=>by simp [oD] at h
 | f::fs,i,x::xs,y::ys,us,vs,h,hx,hy=>by
   unfold oD at h;split at h<;>try contradiction
   split at h<;>try contradiction
   rename_i b1 h1;split at h<;>try contradiction
   rename_i b2 h2;have hb:b1=true/\b2=true:=by cases b1<;>cases b2<;>simp_all
   obtain ⟨rfl,rfl⟩:=hb;simp only [ax] at hx hy;obtain ⟨u,r,rfl,a1,a2⟩:=hx;obtain ⟨v,s,rfl,b1,b2⟩:=hy;obtain ⟨e1,e2⟩:=Ns (n:=n) h2 a2 b2;simp only [List.length_cons,List.zip_cons_cons,List.all_cons,Iw h1 a1 b1,e2,Bool.and_self,and_true];omega
theorem Nt {c:Cx} {n:Nat} {e:TypeId}:∀ {xs ys:List AV} {us vs:List Value},rm P e xs ys=some true->ax c xs us->ax c ys vs ->
  us.length=vs.length/\((vs.zip us).all fun (x,y)=>Instr.sameBits n x y)=true
 | [],ys,us,vs,h,hx,hy=>by
   cases ys<;>simp [rm] at h
   simp [ax] at hx hy;subst hx;subst hy;simp
 | x::xs,[],us,vs,h,hx,hy=>by simp [rm] at h
 | x::xs,y::ys,us,vs,h,hx,hy=>by
   unfold rm at h;split at h<;>try contradiction
   rename_i b1 h1;split at h<;>try contradiction
   rename_i b2 h2;have hb:b1=true/\b2=true:=by cases b1<;>cases b2<;>simp_all
   obtain ⟨rfl,rfl⟩:=hb;simp only [ax] at hx hy;obtain ⟨u,r,rfl,a1,a2⟩:=hx;obtain ⟨v,s,rfl,b1,b2⟩:=hy;obtain ⟨e1,e2⟩:=Nt (n:=n) h2 a2 b2;simp only [List.length_cons,List.zip_cons_cons,List.all_cons,Iw h1 a1 b1,e2,Bool.and_self,and_true];omega
theorem Vh {c:Cx} {t:TypeId} {x y:AV} {u v:Value} (h:jK P t x y=some true) (hu:aa c x u) (hv:aa c y v) (n:Nat):Instr.sameBits (n+1) v u=true:=by
 unfold jK at h;split at h
 ·split at h<;>try contradiction
  rw [aa] at hu hv;obtain ⟨us,rfl,_,bd⟩:=hu;obtain ⟨vs,rfl,_,lA⟩:=hv;obtain ⟨e1,e2⟩:=Ns (n:=n) h bd lA;simp at e1;unfold Instr.sameBits;simp only [Bool.and_eq_true,beq_iff_eq];exact ⟨e1.symm,e2⟩
 ·split at h<;>try contradiction
  split at h<;>try contradiction
  rw [aa] at hu hv;obtain ⟨us,rfl,_,bd⟩:=hu;obtain ⟨vs,rfl,_,lA⟩:=hv;obtain ⟨e1,e2⟩:=Nt (n:=n) h bd lA;simp at e1;unfold Instr.sameBits;simp only [Bool.and_eq_true,beq_iff_eq];exact ⟨e1.symm,e2⟩
 ·exact Iw h hu hv _
 cases h
theorem Nu {c:Cx} {t:TypeId} {d:TypeDesc} {x y:AV} {u v:Value} {b q:Bool} (ht:P.underlying t=some d) (h:jK P t x y=some b) (hu:aa c x u) (hv:aa c y v) (hq:Instr.sameNow d u v=some q):q=b:=by
 unfold jK at h;rw [ht] at h;split at h
 ·rename_i fs bg;cases bg
  split at h<;>contradiction
 ·rename_i n e bg;cases bg
  split at h<;>contradiction
 ·unfold qq at h;rw [ht] at h;split at h
  ·rename_i bg;cases bg
   split at h<;>try contradiction
   rename_i hk;have hk:=Is hk;subst hk;cases h
   rw [aa] at hu hv;obtain ⟨rfl,_⟩:=hu;obtain ⟨rfl,_⟩:=hv;simp [Instr.sameNow] at hq;rw [<- hq,sB]
  ·rename_i bg;cases bg
   cases h
   rw [aa] at hu hv;obtain ⟨b,rfl,rfl,_⟩:=hu;obtain ⟨b',rfl,rfl,_⟩:=hv;simp only [Instr.sameNow] at hq;cases hq
   rw [Bool.eq_iff_iff];obtain ⟨⟨l⟩⟩:=b;obtain ⟨⟨l'⟩⟩:=b';show ((Array.mk l) == (Array.mk l'))=true↔_;simp
  ·rename_i bg;cases bg
   cases h
   rw [aa] at hu hv;subst hu;subst hv;simp only [Instr.sameNow] at hq;cases hq
   rw [sB]
  cases h
 cases h
theorem Nv {c:Cx} {t:TypeId} {d:TypeDesc} {k:AV} {u:Value} (ht:P.underlying t=some d) (hp:qt P t=true) (hu:aa c k u) :
  ∀ {es:List (AV × AV)} {al:List MapEntry} {r:Option AV} (i:Nat),eN c es al->rn P t k es=some r ->
  ∃ res,(Instr.findAsking t u al i).run P w=.ok res w/\(∀ q,Instr.findNow d u al i=some q->q=res) /\
   (match r with
    | none=>res=none/\∀ v',pe P t k v' es=es++[(k,v')]
    | some v=>∃ j e,res=some (i+j,e.val)/\al[j]?=some e/\aa c v e.val/\Instr.sameBits 10000 e.key u=true /\
       ∀ (v':AV) (uv:Value),aa c v' uv->eN c (pe P t k v' es) (al.modify j fun e=>{ e with key:=u,val:=uv }))
 | [],al,r,i,he,hm=>by simp [eN] at he;subst he;simp [rn] at hm;subst hm;exact ⟨none,by simp [Instr.findAsking],by simp [Instr.findNow],rfl,fun v'=>rfl⟩
 | (x,v)::es,al,r,i,he,hm=>by
   obtain ⟨e,rest,rfl,h1,h2,h3⟩:=he;simp only at h1 h2;unfold rn at hm;split at hm
   ·rename_i heq;cases hm
    obtain ⟨bx,_⟩:=Ff (w:=w) heq hp hu h1 9998;refine ⟨some (i,e.val),?_,?_,0,e,rfl,by simp,h2,Vh heq hu h1 9999,?_⟩
    ·simp [Instr.findAsking,Op.equal,Op.maxDepth,bx]
    ·intro q hq;unfold Instr.findNow at hq;split at hq
     ·cases hq;rfl
     ·rename_i hs;have:=Nu ht heq hu h1 hs;cases this
     cases hq
    intro v' uv uX;simp only [pe,heq];exact ⟨{ e with key:=u,val:=uv },rest,rfl,hu,uX,h3⟩
   ·rename_i heq;obtain ⟨bx,_⟩:=Ff (w:=w) heq hp hu h1 9998;obtain ⟨res,r1,r2,r3⟩:=Nv ht hp hu (i+1) h3 hm;refine ⟨res,?_,?_,?_⟩
    ·simp [Instr.findAsking,Op.equal,Op.maxDepth,bx,r1]
    ·intro q hq;unfold Instr.findNow at hq;split at hq
     ·rename_i hs;have:=Nu ht heq hu h1 hs;cases this
     ·exact r2 q hq
     cases hq
    cases r with
    | none=>
      refine ⟨r3.1,fun v'=>?_⟩;simp only [pe,heq,r3.2 v',List.cons_append]
    | some v0=>
      obtain ⟨j,e',q1,q2,q3,q4,q5⟩:=r3;refine ⟨j+1,e',by rw [q1];congr 2;omega,by simpa using q2,q3,q4,fun v' uv uX=>?_⟩;simp only [pe,heq];exact ⟨e,_,by simp [List.modify],h1,h2,q5 v' uv uX⟩
   cases hm
theorem Fg {c:Cx} {t:TypeId} {k:AV} {u:Value} (hk:ss P t k) (hu:aa c k u) {es:List (AV × AV)} {al:Array MapEntry} {r:Option AV} (he:eN c es al.toList) (hm:rn P t k es=some r) :
  ∃ res,(Instr.findKey t u al.toList).run P w=.ok res w /\
   (match r with
    | none=>res=none/\∀ v',pe P t k v' es=es++[(k,v')]
    | some v=>∃ j e,res=some (j,e.val)/\al[j]?=some e/\aa c v e.val/\Instr.sameBits 10000 e.key u=true /\
       ∀ (v':AV) (uv:Value),aa c v' uv->eN c (pe P t k v' es) (al.modify j fun e=>{ e with key:=u,val:=uv }).toList):=by
 have bg:∃ d,P.underlying t=some d:=by
  have:=hk.2;unfold jK at this;cases hd:P.underlying t with
  | none=>simp [hd] at this
  | some d=>exact ⟨d,rfl⟩
 obtain ⟨d,hd⟩:=bg;obtain ⟨res,r1,r2,r3⟩:=Nv (w:=w) hd hk.1 hu 0 he hm;refine ⟨res,?_,?_⟩
 ·unfold Instr.findKey;simp only [Sem.run_bind,cJ hd,Result.andThen_ok];split
  ·rename_i q hq;rw [r2 q hq];simp
  exact r1
 cases r with
 | none=>exact r3
 | some v=>
   obtain ⟨j,e,q1,q2,q3,q4,q5⟩:=r3;refine ⟨j,e,by simpa using q1,by simpa using q2,q3,q4,fun v' uv uX=>?_⟩;rw [Array.toList_modify];exact q5 v' uv uX
theorem Vi {a:Int} (h0:0<=a) (h1:a<4294967296):IntKind.u64.wrap ((BitVec.ofInt 64 a &&& BitVec.ofInt 64 4294967295).toNat:Int)=a:=by
 obtain ⟨m,rfl⟩:=Int.eq_ofNat_of_zero_le h0;have e1:(BitVec.ofInt 64 (m:Int)).toNat=m:=by rw [BitVec.ofInt_natCast,BitVec.toNat_ofNat];exact Nat.mod_eq_of_lt (by omega)
 have e2:(BitVec.ofInt 64 4294967295).toNat=4294967295:=(by decide);rw [BitVec.toNat_and,e1,e2,show 4294967295=2 ^ 32 - 1 from rfl,Nat.and_two_pow_sub_one_eq_mod,Nat.mod_eq_of_lt (by omega)];simp [IntKind.wrap,IntKind.signed,IntKind.bits];omega
set_option maxHeartbeats 1000000 in
theorem Vj {c:Cx} {g:G} (he:∀ e∈g,e.2.1=e.2.2) {t:TypeId} {op:BinOp} {x y:AV} {u v:Value} {K:AV->Prop} {ox oy:Operand}
  (h:tQ P g t op x y K) (hu:aa c x u) (hv:aa c y v) :
  ∃ z s,K z/\aa c z s/\(do eqGuard op t ox oy u v;binOp op t u v:Sem Value).run P c.w=.ok s c.w:=by
 have out:∀ {p:Prop},gP g p->p:=by
  intro p hp;clear h;induction g with
  | nil=>exact hp
  | cons e g ih=>exact ih (fun e' h'=>he e' (by simp [h'])) (hp (he e (by simp)))
 unfold tQ at h;split at h
 case h_1=>-- add
  rw [pd] at h;obtain ⟨rfl,h⟩:=h;rw [aa] at hu hv;obtain ⟨rfl,_⟩:=hu;obtain ⟨rfl,_⟩:=hv;obtain ⟨z,h1,h2⟩:=BV (c:=c) he h;exact ⟨z,_,h1,h2,by simp [ft,binOp,Op.intArith]⟩
 case h_2=>
  rw [pd] at h;obtain ⟨rfl,h⟩:=h;rw [aa] at hu hv;obtain ⟨rfl,_⟩:=hu;obtain ⟨rfl,_⟩:=hv;obtain ⟨z,h1,h2⟩:=BV (c:=c) he h;exact ⟨z,_,h1,h2,by simp [ft,binOp,Op.intArith]⟩
 case h_3=>
  rw [pd] at h;obtain ⟨rfl,h⟩:=h;rw [aa] at hu hv;obtain ⟨rfl,_⟩:=hu;obtain ⟨rfl,_⟩:=hv;obtain ⟨z,h1,h2⟩:=BV (c:=c) he h;exact ⟨z,_,h1,h2,by simp [ft,binOp,Op.intArith]⟩
 case h_4=>
  rw [pd] at h;obtain ⟨rfl,hb,h⟩:=h;rw [aa] at hu hv;obtain ⟨rfl,_⟩:=hu;obtain ⟨rfl,_⟩:=hv;obtain ⟨z,h1,h2⟩:=BV (c:=c) he h;exact ⟨z,_,h1,h2,by simp [ft,binOp,Op.intDiv,out hb]⟩
 case h_5=>
  rw [pd] at h;obtain ⟨rfl,hb,h⟩:=h;rw [aa] at hu hv;obtain ⟨rfl,_⟩:=hu;obtain ⟨rfl,_⟩:=hv;refine ⟨_,_,h,by rw [aa];exact ⟨rfl,(out hb).2⟩,by simp [ft,binOp,Op.intDiv,(out hb).1]⟩
 case h_6=>
  rw [pd] at h;obtain ⟨rfl,h⟩:=h;rw [aa] at hu hv;obtain ⟨rfl,_⟩:=hu;obtain ⟨rfl,_⟩:=hv;exact ⟨_,_,h,by rw [aa],by simp [ft,binOp,Op.intCmp]⟩
 case h_7=>
  rw [pd] at h;obtain ⟨rfl,h⟩:=h;rw [aa] at hu hv;obtain ⟨rfl,_⟩:=hu;obtain ⟨rfl,_⟩:=hv;exact ⟨_,_,h,by rw [aa],by simp [ft,binOp,Op.intCmp]⟩
 case h_8=>
  rw [pd] at h;obtain ⟨rfl,h⟩:=h;rw [aa] at hu hv;obtain ⟨rfl,_⟩:=hu;obtain ⟨rfl,_⟩:=hv;exact ⟨_,_,h,by rw [aa],by simp [ft,binOp,Op.intCmp]⟩
 case h_9=>
  rw [pd] at h;obtain ⟨rfl,h⟩:=h;rw [aa] at hu hv;obtain ⟨rfl,_⟩:=hu;obtain ⟨rfl,_⟩:=hv;exact ⟨_,_,h,by rw [aa],by simp [ft,binOp,Op.intCmp]⟩
 case h_10=>
  rw [pd] at h;obtain ⟨rfl,h⟩:=h;rw [aa] at hu hv;obtain ⟨rfl,_⟩:=hu;obtain ⟨rfl,_⟩:=hv;exact ⟨_,_,h,by rw [aa],by simp [ft,binOp,Op.intCmp,sB]⟩
 case h_11=>
  rw [pd] at h;obtain ⟨rfl,h⟩:=h;rw [aa] at hu hv;obtain ⟨rfl,_⟩:=hu;obtain ⟨rfl,_⟩:=hv;exact ⟨_,_,h,by rw [aa],by simp [ft,binOp,Op.intCmp,bne,sB]⟩
 case h_12=>
  split at h
  ·rename_i bg;rw [aa] at hu hv;subst hu;subst hv;refine ⟨_,_,h,by rw [aa],?_⟩;simp [ft,binOp,Nl bg,sB]
  exact h.elim
 case h_13=>
  split at h
  ·rename_i bg;rw [aa] at hu hv;subst hu;subst hv;refine ⟨_,_,h,by rw [aa],?_⟩;simp [ft,binOp,Nl bg,sB]
  exact h.elim
 case h_14=>
  rw [aa] at hu hv;obtain ⟨b,rfl,rfl,_⟩:=hu;obtain ⟨b',rfl,rfl,_⟩:=hv;refine ⟨_,_,h,by rw [aa],?_⟩;simp [ft,binOp,Op.stringOp,sB,Go.ByteArray.toList_eq]
 case h_15=>
  rw [aa] at hu hv;obtain ⟨b,rfl,rfl,_⟩:=hu;obtain ⟨b',rfl,rfl,_⟩:=hv;refine ⟨_,_,h,by rw [aa],?_⟩;simp [ft,binOp,Op.stringOp,sB,Go.ByteArray.toList_eq]
 case h_16=>
  rw [aa] at hu hv;obtain ⟨b,rfl,rfl,_⟩:=hu;obtain ⟨b',rfl,rfl,_⟩:=hv;refine ⟨_,_,h,by rw [aa],?_⟩;simp [ft,binOp,Op.stringOp,Go.ByteArray.toList_eq]
 case h_17=>
  rw [aa] at hu hv;obtain ⟨b,rfl,rfl,l1⟩:=hu;obtain ⟨b',rfl,rfl,l2⟩:=hv;have l3:=out h.1;refine ⟨_,.string (b++b'),h.2,?_,?_⟩
  ·rw [aa];exact ⟨_,rfl,by simp [ByteArray.data_append],l3⟩
  have hle:¬ (((b.size+b'.size:Nat):Int) > IntKind.i64.max):=by simp only [List.length_append,Array.length_toList] at l3;have e1:b.data.size=b.size:=rfl;have e2:b'.data.size=b'.size:=rfl;rw [e1,e2] at l3;unfold aw at l3;simp [IntKind.max,IntKind.signed,IntKind.bits];omega
  simp only [Sem.run_bind,ft (u:=.string b) (by simp) (by simp),Result.andThen,binOp,Op.stringOp];rw [if_neg hle];rfl
 case h_18=>
  split at h
  ·rename_i b heq;obtain ⟨hp,hK⟩:=h;obtain ⟨h1,h2⟩:=Ff (w:=c.w) heq hp hu hv 9998;rcases h2 with ⟨us,vs,rfl,rfl,hm,_⟩|h2
   ·refine ⟨_,.bool b,hK,by rw [aa],?_⟩;simp only [Sem.run_bind,run_eqGuard_agg c.w .eql t ox oy us vs hm,Result.andThen_ok,run_eql_struct];rw [show (10000:Nat)=9998+2 from rfl,h1];rfl
   unfold qq at h2;split at h2<;>first|contradiction|(rename_i hx _;cases hx)
  exact h.elim
 case h_19=>
  split at h
  ·rename_i b heq;obtain ⟨hp,hK⟩:=h;obtain ⟨h1,h2⟩:=Ff (w:=c.w) heq hp hu hv 9998;rcases h2 with ⟨us,vs,rfl,rfl,hm,_⟩|h2
   ·refine ⟨_,.bool (!b),hK,by rw [aa],?_⟩;simp only [Sem.run_bind,run_eqGuard_agg c.w .neq t ox oy us vs hm,Result.andThen_ok,run_neq_struct];rw [show (10000:Nat)=9998+2 from rfl,h1];rfl
   unfold qq at h2;split at h2<;>first|contradiction|(rename_i hx _;cases hx)
  exact h.elim
 case h_20=>
  split at h
  ·rename_i bg;rw [aa] at hu hv;subst hu;subst hv;refine ⟨_,_,h,by rw [aa],?_⟩;simp [ft,binOp,yg bg]
  exact h.elim
 case h_21=>
  split at h
  ·rename_i bg;rw [aa] at hu hv;subst hu;subst hv;refine ⟨_,_,h,by rw [aa],?_⟩;simp [ft,binOp,yg bg]
  exact h.elim
 case h_22=>
  split at h
  ·rename_i bg;simp only [aa] at hu hv;subst hv;obtain ⟨a,cap,rfl,_⟩:=hu;refine ⟨_,_,h,by rw [aa],?_⟩;simp [ft,binOp,yg bg]
  exact h.elim
 case h_23=>
  split at h
  ·rename_i bg;simp only [aa] at hu hv;subst hv;obtain ⟨a,cap,rfl,_⟩:=hu;refine ⟨_,_,h,by rw [aa],?_⟩;simp [ft,binOp,yg bg]
  exact h.elim
 case h_24=>
  split at h
  ·rename_i bg;have aJ:=out h.1;simp only [aa] at hu hv;subst hv;obtain ⟨base,cap,rfl,h1,h2,h3,h4,h5,_⟩:=hu;have hb:base≠none:=fun e=>aJ (List.eq_nil_of_length_eq_zero (by have:=h4 e;omega));obtain ⟨a,rfl⟩:=Option.ne_none_iff_exists'.1 hb;refine ⟨_,_,h.2,by rw [aa],?_⟩;simp [ft,binOp,yg bg]
  exact h.elim
 case h_25=>
  split at h
  ·rename_i bg;have aJ:=out h.1;simp only [aa] at hu hv;subst hv;obtain ⟨base,cap,rfl,h1,h2,h3,h4,h5,_⟩:=hu;have hb:base≠none:=fun e=>aJ (List.eq_nil_of_length_eq_zero (by have:=h4 e;omega));obtain ⟨a,rfl⟩:=Option.ne_none_iff_exists'.1 hb;refine ⟨_,_,h.2,by rw [aa],?_⟩;simp [ft,binOp,yg bg]
  exact h.elim
 case h_26=>
  rw [aa] at hu hv;obtain ⟨b,rfl,rfl,_⟩:=hu;obtain ⟨b',rfl,rfl,_⟩:=hv;refine ⟨_,_,h,by rw [aa],?_⟩;simp [ft,binOp,Op.stringOp,sB,Go.ByteArray.toList_eq]
 case h_27=>
  split at h
  ·rename_i bg;simp only [aa] at hu hv;subst hv;obtain ⟨p,cap,_,_,_,rfl,_⟩:=hu;refine ⟨_,_,h,by rw [aa],?_⟩;simp [ft,binOp,yg bg]
  exact h.elim
 case h_28=>
  split at h
  ·rename_i bg;simp only [aa] at hu hv;subst hv;obtain ⟨b,o,rfl,_⟩:=hu;refine ⟨_,_,h,by rw [aa],?_⟩;simp [ft,binOp,Fe bg]
  exact h.elim
 case h_29=>
  split at h
  ·rename_i bg;simp only [aa] at hu hv;subst hv;obtain ⟨b,o,rfl,_⟩:=hu;refine ⟨_,_,h,by rw [aa],?_⟩;simp [ft,binOp,Fe bg]
  exact h.elim
 case h_30=>
  split at h
  ·rename_i bg;simp only [aa] at hu hv;subst hv hu;refine ⟨_,_,h,by rw [aa],?_⟩;simp [ft,binOp,Fe bg]
  exact h.elim
 case h_31=>
  split at h
  ·rename_i bg;simp only [aa] at hu hv;subst hv hu;refine ⟨_,_,h,by rw [aa],?_⟩;simp [ft,binOp,Fe bg]
  exact h.elim
 case h_32=>
  rw [aa] at hu hv;obtain ⟨rfl,_⟩:=hu;obtain ⟨rfl,_⟩:=hv;obtain ⟨⟨⟨rfl,rfl⟩,h1,h2⟩,hK⟩:=(show _/\_ from ⟨out h.1,h.2⟩);refine ⟨_,.int .u64 _,hK,by rw [aa];exact ⟨rfl,by simp [IntKind.has,IntKind.min,IntKind.max,IntKind.signed,IntKind.bits];omega⟩,?_⟩;have Vk:∀ a:Int,Int.fdiv a ((2:Int) ^ 1)=a / 2:=fun a=>by rw [Int.fdiv_eq_ediv_of_nonneg _ (by decide)];rfl
  simp only [Sem.run_bind,ft (u:=.int .u64 _) (by simp) (by simp),Result.andThen_ok,binOp,Op.shift];rw [if_neg (by decide)];exact congrArg (fun z=>Result.ok (Value.int .u64 z) c.w) (Vk _)
 case h_33=>
  rw [aa] at hu hv;obtain ⟨rfl,_⟩:=hu;obtain ⟨rfl,_⟩:=hv;obtain ⟨⟨⟨rfl,rfl⟩,⟨h1,h2⟩,rfl⟩,hK⟩:=(show _/\_ from ⟨out h.1,h.2⟩);refine ⟨_,.int .u64 0,hK,by rw [aa];exact ⟨rfl,by simp [IntKind.has,IntKind.min,IntKind.max,IntKind.signed,IntKind.bits]⟩,?_⟩;have:=Int.fdiv_eq_zero_of_lt h1 (show _<(2:Int) ^ 32 from h2);simp only [Sem.run_bind,ft (u:=.int .u64 _) (by simp) (by simp),Result.andThen_ok,binOp,Op.shift];rw [if_neg (by omega)];exact congrArg (fun z=>Result.ok (Value.int .u64 z) c.w) this
 case h_34=>
  rw [aa] at hu hv;obtain ⟨rfl,hk⟩:=hu;obtain ⟨rfl,_⟩:=hv;obtain ⟨⟨⟨rfl,rfl⟩,⟨h1,h2⟩,rfl⟩,hK⟩:=(show _/\_ from ⟨out h.1,h.2⟩);refine ⟨_,_,hK,by rw [aa];exact ⟨rfl,hk⟩,?_⟩;have:=Vi h1 h2;simp only [Sem.run_bind,ft (u:=.int .u64 _) (by simp) (by simp),Result.andThen_ok,binOp,Op.intBits];simp only [ne_eq,not_true_eq_false,if_false,Sem.run_pure];exact congrArg (fun z=>Result.ok (Value.int .u64 z) c.w) this
 case h_35=>exact h.elim
theorem Nw {c:Cx} {t:TypeId} {z:AV} (h:zeroV P t=some z):∃ v,(zeroValue t).run P w=.ok v w/\aa c z v:=by
 unfold zeroV at h;cases hi:P.info? t with
 | none=>simp [hi] at h
 | some i=>
   simp only [hi] at h;split at h
   ·rename_i us hz;split at h<;>try contradiction
    rename_i l hl;cases h
    refine ⟨.agg us,by simp [zeroValue,typeInfo,hi,hz],?_⟩;rw [aa];refine ⟨us,rfl,?_,Io c hl⟩
    have one:∀ (vs:List Value) (xs:List AV),sr vs=some xs->∀ u∈vs,u.oneCell'=true:=by
     intro vs;induction vs with
     | nil=>intro xs _ u hu;cases hu
     | cons v vs ih=>
       intro xs hx u hu;unfold sr at hx;split at hx<;>try contradiction
       rename_i a hv;split at hx<;>try contradiction
       rename_i b hr;rcases List.mem_cons.1 hu with rfl|hu
       ·unfold oC at hv;split at hv<;>first|rfl|contradiction
       exact ih _ hr u hu
    intro u hu;exact one us.toList l hl u (by simpa using hu)
   ·rename_i v aJ hz;exact ⟨v,by simp [zeroValue,typeInfo,hi,hz],Im c h⟩
   cases h
theorem Ix {c:Cx} {ok f:Bool} {v:AV} {s:Value} (h:aa c v s):aa c (su ok v f) (if ok then .tuple #[s,.bool f] else s):=by
 cases ok with
 | true=>simp only [su,aa,if_true];exact ⟨_,rfl,by simp only [ax];exact ⟨s,[.bool f],rfl,h,.bool f,[],rfl,by rw [aa],rfl⟩⟩
 | false=>simpa [su] using h
theorem Vl {c:Cx} {t kt et:TypeId} {k z v:AV} {u:Value} {f ok:Bool} {r:Nat} {es:List (AV × AV)} {al:Array MapEntry} {cl:Nat} (ht:P.underlying t=some (.map kt et)) (hk:ss P kt k) (hu:aa c k u)
  (hz:zeroV P et=some z) (hb:c.w.heap[r]?=some (.map al cl)) (he:eN c es al.toList) (hm:ya P kt k es z=some (v,f)) :
  ∃ s,(Instr.lookup t (.map (some r)) u ok).run P c.w=.ok s c.w/\aa c (su ok v f) s:=by
 obtain ⟨zv,gz,fU⟩:=Nw (c:=c) (w:=c.w) hz;have gk:=Iv (w:=c.w) hk hu al.isEmpty 9998;unfold ya at hm;split at hm
 ·rename_i v' hg;cases hm
  obtain ⟨res,h1,j,e,rfl,h3,h4,_⟩:=Fg (w:=c.w) hk hu he hg;refine ⟨_,?_,Ix h4⟩;simp only [Instr.lookup,Sem.run_bind,cJ ht,Result.andThen_ok,getObj];simp [Sem.run,hb,gk,h1]
 ·rename_i hg;cases hm
  obtain ⟨res,h1,rfl,_⟩:=Fg (w:=c.w) hk hu he hg;refine ⟨_,?_,Ix fU⟩;simp only [Instr.lookup,Sem.run_bind,cJ ht,Result.andThen_ok,getObj];simp [Sem.run,hb,gk,h1,gz]
 cases hm
theorem Vm {c:Cx} {t kt et:TypeId} {k z:AV} {u:Value} {ok:Bool} (ht:P.underlying t=some (.map kt et)) (hk:ss P kt k) (hu:aa c k u)
  (hz:zeroV P et=some z):∃ s,(Instr.lookup t (.map none) u ok).run P c.w=.ok s c.w/\aa c (su ok z false) s:=by
 obtain ⟨zv,gz,fU⟩:=Nw (c:=c) (w:=c.w) hz;have gk:=Iv (w:=c.w) hk hu true 9998;obtain ⟨res,h1,rfl,_⟩:=Fg (w:=c.w) (es:=[]) (al:=#[]) (r:=none) hk hu (by simp [eN]) (by simp [rn]);refine ⟨_,?_,Ix fU⟩;simp only [Instr.lookup,Sem.run_bind,cJ ht,Result.andThen_ok];simp at h1;simp [gk,h1,gz]
end Go.Abs
/-
 The abstract fS,part D: the Fh that leave the own objects alone.
-/
namespace Go.Abs
open Go
variable {P:Program}
theorem Ah {c:Cx} {v:AV} {l:List AV} {u:Value} (h:ql v=some l) (hr:aa c v u) :
  ax c l u.cells.toList/\∀ x∈u.cells,x.oneCell'=true:=by
 unfold ql at h;split at h
 ·cases h
  rw [aa] at hr;obtain ⟨us,rfl,h1,h2⟩:=hr;exact ⟨h2,h1⟩
 ·cases h
 ·cases h
 rename_i n1 n2 n3;cases h
 have hu:u.cells=#[u]/\u.oneCell'=true:=by
  cases v<;>first|(exact absurd rfl (n1 _))|(exact absurd rfl (n2 _))|(exact absurd rfl n3)|skip
  all_goals simp only [aa] at hr
  case Ih=>cases u<;>simp_all [Value.oneCell',Value.cells]
  case bool=>subst hr;simp [Value.oneCell',Value.cells]
  case int=>obtain ⟨rfl,_⟩:=hr;simp [Value.oneCell',Value.cells]
  case str=>obtain ⟨b,rfl,_⟩:=hr;simp [Value.oneCell',Value.cells]
  case aT=>subst hr;simp [Value.oneCell',Value.cells]
  case wx=>obtain ⟨b,c,rfl,_⟩:=hr;simp [Value.oneCell',Value.cells]
  case gZ=>subst hr;simp [Value.oneCell',Value.cells]
  case sl=>obtain ⟨b,c,rfl,_⟩:=hr;simp [Value.oneCell',Value.cells]
  case aQ=>obtain ⟨p,c,_,_,_,rfl,_⟩:=hr;simp [Value.oneCell',Value.cells]
  case eM=>obtain ⟨p,_,_,rfl,_⟩:=hr;simp [Value.oneCell',Value.cells]
  case au=>obtain ⟨p,c,rfl,_⟩:=hr;simp [Value.oneCell',Value.cells]
  case bj=>obtain ⟨p,_,_,rfl⟩:=hr;simp [Value.oneCell',Value.cells]
  case kA=>subst hr;simp [Value.oneCell',Value.cells]
  case omap=>obtain ⟨p,_,rfl⟩:=hr;simp [Value.oneCell',Value.cells]
  case BN=>subst hr;simp [Value.oneCell',Value.cells]
  case fn=>obtain ⟨p,rfl,_⟩:=hr;simp [Value.oneCell',Value.cells]
  case ES=>subst hr;simp [Value.oneCell',Value.cells]
  case tP=>obtain ⟨p,_,rfl⟩:=hr;simp [Value.oneCell',Value.cells]
 rw [hu.1];refine ⟨?_,by simpa using hu.2⟩;simp only [ax];exact ⟨u,[],rfl,hr,rfl⟩
section
variable {n:Nat} {X:Nat->Prop} {g0:Gh} {r:aC} {h:af} {a:Act} {w:World}
theorem qy {g:G} {p:Prop} (he:∀ e∈g,e.2.1=e.2.2) (hp:gP g p):p:=by
 induction g with
 | nil=>exact hp
 | cons e g ih=>exact ih (fun e' h'=>he e' (by simp [h'])) (hp (he e (by simp)))
def Nx (X:Nat->Prop) (g0:Gh) (h:af) (w:World) (K:AV->Prop) (d:Option Tmp) (a:Act) (next:Act->World->Prop):Prop:=
 ∀ v g' u w',K v->CW X g' h w'->aa ⟨g',live X h,w'⟩ v u->Step X g0 h w g' h w'->next (a.put d u) w'
theorem fu {o:Oper} {K:AV->Prop} {next:Act->World->Prop} {Q:Exit->Act->World->Prop} (hc:bN n X g0 r h a w) (hn:Nx X g0 h w K o.dst a next)
  {u:Value} {v:AV} (hk:K v) (hu:aa ⟨g0,live X h,w⟩ v u) (hr:(execOp a.eval o).run P w=.ok (.value u) w):o.wp P a w next Q:=
 eh hr (hn v g0 u w hk hc.cw hu (Step.refl _ _ _ _))
theorem wC {k:Nat} (h:k<=aw):IntKind.i64.has (k:Int):=by unfold aw at h;constructor<;>simp [IntKind.min,IntKind.max,IntKind.signed,IntKind.bits]<;>omega
theorem Vn {c:Cx} {t ty:TypeId} {x:AV} {u:Value} {K:AV->Prop} (h:tU (P.underlying t) x K) (hu:aa c x u) :
  ∃ v s,K v/\aa c v s/\(Builtin.len_ #[t] ty #[u]).run P c.w=.ok s c.w:=by
 unfold tU at h;split at h
 ·rename_i e k q xs hd;simp only [aa] at hu;obtain ⟨b,cap,rfl,h1,h2,_⟩:=hu;exact ⟨_,_,h,by rw [aa];exact ⟨rfl,wC h2⟩,by simp [Builtin.len_,cJ hd,goInt]⟩
 ·rename_i e hd;simp only [aa] at hu;subst hu;exact ⟨_,_,h,by rw [aa];exact ⟨rfl,wC (k:=0) (Nat.zero_le _)⟩,by simp [Builtin.len_,cJ hd,goInt]⟩
 ·rename_i e k hd;simp only [aa] at hu;obtain ⟨a,cap,rfl,_⟩:=hu;exact ⟨_,_,h,by rw [aa];exact ⟨rfl,wC (k:=0) (Nat.zero_le _)⟩,by simp [Builtin.len_,cJ hd,goInt]⟩
 ·rename_i e hd;simp only [aa] at hu;subst hu;exact ⟨_,_,h,by rw [aa];exact ⟨rfl,wC (k:=0) (Nat.zero_le _)⟩,by simp [Builtin.len_,cJ hd,goInt]⟩
 ·rename_i e b o m k hd;simp only [aa] at hu;obtain ⟨p,cap,_,_,_,rfl,_,h2,_⟩:=hu;exact ⟨_,_,h,by rw [aa];exact ⟨rfl,wC h2⟩,by simp [Builtin.len_,cJ hd,goInt]⟩
 ·rename_i e b o m c k hd;simp only [aa] at hu;obtain ⟨p,_,_,rfl,_,h2,_⟩:=hu;exact ⟨_,_,h,by rw [aa];exact ⟨rfl,wC h2⟩,by simp [Builtin.len_,cJ hd,goInt]⟩
 ·rename_i s hd;rw [aa] at hu;obtain ⟨b,rfl,rfl,h2⟩:=hu;refine ⟨_,_,h,by rw [aa];exact ⟨rfl,wC h2⟩,?_⟩;simp [Builtin.len_,cJ hd,goInt]
 exact h.elim
theorem Ny {c:Cx}:∀ {l:List AV} {us:List Value} {x m:Int},foldI min x l=some m->ax c l us->IntKind.i64.has x ->
  IntKind.i64.has m/\∀ w:World,(us.foldlM Builtin.min2 (Value.int .i64 x)).run P w=.ok (.int .i64 m) w
 | [],us,x,m,h,hr,hx=>by simp [foldI] at h;subst h;simp [ax] at hr;subst hr;exact ⟨hx,fun w=>by simp⟩
 | y::l,us,x,m,h,hr,hx=>by
   simp only [ax] at hr;obtain ⟨u,r,rfl,h1,h2⟩:=hr;cases y<;>try (simp [foldI] at h;done)
   rename_i k b;cases k<;>try (simp [foldI] at h;done)
   rw [aa] at h1;obtain ⟨rfl,hb⟩:=h1;have hm:IntKind.i64.has (min x b):=by rcases Int.le_total x b with e|e<;>simp [Int.min_eq_left,Int.min_eq_right,e,hx,hb]
   obtain ⟨e1,e2⟩:=Ny (x:=min x b) (by simpa [foldI] using h) h2 hm;refine ⟨e1,fun w=>?_⟩;have e:(if b<x then b else x)=min x b:=by split<;>omega
   simp only [List.foldlM_cons,Sem.run_bind,Builtin.min2,Sem.run_pure,Result.andThen,e];exact e2 w
theorem Nz {c:Cx}:∀ {l:List AV} {us:List Value} {x m:Int},foldI max x l=some m->ax c l us->IntKind.i64.has x ->
  IntKind.i64.has m/\∀ w:World,(us.foldlM Builtin.max2 (Value.int .i64 x)).run P w=.ok (.int .i64 m) w
 | [],us,x,m,h,hr,hx=>by simp [foldI] at h;subst h;simp [ax] at hr;subst hr;exact ⟨hx,fun w=>by simp⟩
 | y::l,us,x,m,h,hr,hx=>by
   simp only [ax] at hr;obtain ⟨u,r,rfl,h1,h2⟩:=hr;cases y<;>try (simp [foldI] at h;done)
   rename_i k b;cases k<;>try (simp [foldI] at h;done)
   rw [aa] at h1;obtain ⟨rfl,hb⟩:=h1;have hm:IntKind.i64.has (max x b):=by rcases Int.le_total x b with e|e<;>simp [Int.max_eq_left,Int.max_eq_right,e,hx,hb]
   obtain ⟨e1,e2⟩:=Nz (x:=max x b) (by simpa [foldI] using h) h2 hm;refine ⟨e1,fun w=>?_⟩;have e:(if b > x then b else x)=max x b:=by split<;>omega
   simp only [List.foldlM_cons,Sem.run_bind,Builtin.max2,Sem.run_pure,Result.andThen,e];exact e2 w
end
section
variable {n:Nat} {X:Nat->Prop} {g0:Gh} {r:aC} {h:af} {a:Act} {w:World}
theorem Fi {f:FuncId} {us:Array Value} (hf:tT P f):(callFunc f us).run P w=.ok (.enter f us) w:=by obtain ⟨fn,c,h1,h2,h3⟩:=hf;simp only [callFunc,Sem.run_bind,run_program,Result.andThen,h1,h3,h2];simp
theorem wy.calls {f:FuncId} {us:Array Value} {R:Ending->World->Prop} (hf:tT P f) (hc:wy P f us w R):Calls P f us w R:=by
 rcases hc with ⟨_,h⟩|⟨v,w',h,_⟩
 ·exact h
 rw [Fi hf] at h;cases h
theorem Fj {f:FuncId} {vs:List AV} {R:AV->af->Prop} {o:Oper} {us:Array Value} {next:Act->World->Prop} {Q:Exit->Act->World->Prop}
  (hq:aB P f vs h R) (hc:CW X g0 h w) (hv:ax ⟨g0,live X h,w⟩ vs us.toList)
  (bx:(execOp a.eval o).run P w=(callFunc f us).run P w)
  (hn:∀ v h' g' u w',R v h'->CW X g' h' w'->aa ⟨g',live X h',w'⟩ v u->Step X g0 h w g' h' w'->next (a.put o.dst u) w'):o.wp P a w next Q:=by
 rcases hq.1 X g0 w us hc hv with ⟨h1,h2⟩|⟨u,w',h1,v,u',g',h',e,h3,h4,h5,h6⟩
 ·rw [Fi h1] at bx;simp only [Oper.wp,bx,Oper.upon];refine h2.mono fun e w' he=>?_;obtain ⟨v,u,g',h',rfl,h1,h2,h3,h4⟩:=he;exact hn v h' g' u w' h1 h2 h3 h4
 cases e
 rw [h1] at bx;exact eh bx (hn v h' g' _ w' h3 h4 h5 h6)
end
theorem NA:∀ (vs:List Value) (k off:Nat) (cs:Array Value),off+k+vs.length<=cs.size ->
  ((vs.zipIdx k).foldl (fun cs (x:Value × Nat)=>cs.setIfInBounds (off+x.2) x.1) cs).toList=cs.toList.take (off+k)++vs++cs.toList.drop (off+k+vs.length)
 | [],k,off,cs,h=>by simp
 | v::vs,k,off,cs,h=>by
   simp only [List.length_cons] at h;simp only [List.zipIdx_cons,List.foldl_cons];rw [NA vs (k+1) off _ (by simp;omega)];simp only [Array.toList_setIfInBounds,List.length_cons];have hlen:off+k<cs.toList.length:=by simp;omega
   rw [show off+(k+1)=off+k+1 from by omega,List.take_succ_eq_append_getElem (by simp;omega),List.take_set];simp only [List.getElem_set_self,List.append_assoc,List.singleton_append];rw [List.set_eq_of_length_le (by simp;omega),List.drop_set_of_lt (by omega)];rw [show off+k+1+vs.length=off+k+(vs.length+1) from by omega]
theorem NB (v:Value) (off:Nat) (cells:Array Value) (h:off+v.cells.size<=cells.size) :
  (v.cells.zipIdx.foldl (fun cs (x:Value × Nat)=>cs.setIfInBounds (off+x.2) x.1) cells).toList=cells.toList.take off++v.cells.toList++cells.toList.drop (off+v.cells.size):=by
 have:=NA v.cells.toList 0 off cells (by simpa using h);rw [<- Array.foldl_toList,Array.toList_zipIdx];simpa using this
theorem Iy {c:Cx} {place:Nat->Option (Nat × Nat)}:∀ {ps:List (Nat × AV)} {cs out:List AV} {vs:List (Nat × Value)} {cells:Array Value},
  wz ps place cs=some out->(vs.map (·.1)=ps.map (·.1))->(∀ (i:Nat) (p:Nat × AV) (v:Nat × Value),ps[i]?=some p->vs[i]?=some v->aa c p.2 v.2)->ax c cs cells.toList->(∀ u∈cells,u.oneCell'=true) ->
  ∃ res,Instr.fill place cells vs=some res/\ax c out res.toList/\∀ u∈res,u.oneCell'=true
 | [],cs,out,vs,cells,h,hi,hr,hc,h1=>by simp [wz] at h;subst h;simp at hi;subst hi;exact ⟨cells,rfl,hc,h1⟩
 | (i,x)::ps,cs,out,vs,cells,h,hi,hr,hc,h1=>by
   cases vs with
   | nil=>simp at hi
   | cons v vs=>
     obtain ⟨j,v⟩:=v;simp at hi;obtain ⟨rfl,hi⟩:=hi;have hx:aa c x v:=hr 0 _ _ rfl rfl;unfold wz at h;cases hp:place j with
     | none=>simp [hp] at h
     | some q=>
       obtain ⟨off,size⟩:=q;simp only [hp] at h;cases hl:ql x with
       | none=>simp [hl] at h
       | some l=>
         simp only [hl] at h;obtain ⟨bz,tY⟩:=Ah hl hx;split at h
         ·rename_i iG;have iG:=Nat.eq_of_beq_eq_true iG;cases ht:takeN off cs with
          | none=>simp [ht] at h
          | some ta=>
            cases hd:jd (off+size) cs with
            | none=>simp [ht,hd] at h
            | some td=>
              simp only [ht,hd] at h;obtain ⟨t1,rfl⟩:=Fb ht;obtain ⟨d1,rfl⟩:=yf hd;have hlen:=bz.length;have bV:=hc.length;simp only [Array.length_toList] at hlen bV;have lA:v.cells.size=size:=(by omega);have hb:off+v.cells.size<=cells.size:=(by omega);have hf:=NB v off cells hb
              obtain ⟨res,e1,e2,e3⟩:=Iy (place:=place) (vs:=vs) (cells:=v.cells.zipIdx.foldl (fun cs (x:Value × Nat)=>cs.setIfInBounds (off+x.2) x.1) cells) h hi
               (fun k p w hp hw=>hr (k+1) p w (by simpa using hp) (by simpa using hw))
               (by rw [hf];rw [lA];exact ax.append (ax.append (ax.take off hc) bz) (ax.drop (off+size) hc))
               (fun u hu=>by
                 have dA:u∈(v.cells.zipIdx.foldl (fun cs (x:Value × Nat)=>cs.setIfInBounds (off+x.2) x.1) cells).toList:=(by simpa using hu);rw [hf] at dA;simp only [List.mem_append] at dA;rcases dA with (dA|dA)|dA
                 ·exact h1 u (by simpa using List.mem_of_mem_take dA)
                 ·exact tY u (by simpa using dA)
                 exact h1 u (by simpa using List.mem_of_mem_drop dA))
              refine ⟨res,?_,e2,e3⟩;unfold Instr.fill;simp only [hp];rw [if_neg (by simp [lA];omega)];exact e1
         cases h
theorem NC {P:Program}:∀ {fs:List Field} {l:List (Nat × Nat)},placesOf P fs=some l ->
  fs.mapM (fun f=>(P.info? f.type).map fun i=>(f.offset,i.size))=some l
 | [],l,h=>by simp [placesOf] at h;subst h;simp
 | f::fs,l,h=>by
   unfold placesOf at h;cases hi:P.info? f.type with
   | none=>simp [hi] at h
   | some i=>
     cases hp:placesOf P fs with
     | none=>simp [hi,hp] at h
     | some l'=>
       simp [hi,hp] at h;subst h;simp [List.mapM_cons,hi,NC hp]
theorem nH {P:Program} {c:Cx} {t:TypeId} {z:List AV} (h:jc P t=some z):∃ i v,P.info? t=some i/\i.zero=some v/\ax c z v.cells.toList/\∀ u∈v.cells,u.oneCell'=true:=by
 unfold jc at h;cases hi:P.info? t with
 | none=>simp [hi] at h
 | some i=>
   cases hz:i.zero with
   | none=>simp [hi,hz] at h
   | some v=>
     simp [hi,hz] at h;refine ⟨i,v,rfl,hz,Io c h,?_⟩
     have one:∀ (vs:List Value) (xs:List AV),sr vs=some xs->∀ u∈vs,u.oneCell'=true:=by
      intro vs;induction vs with
      | nil=>intro xs _ u hu;cases hu
      | cons v vs ih=>
        intro xs hx u hu;unfold sr at hx;cases hv:oC v with
        | none=>simp [hv] at hx
        | some a=>
          cases hr:sr vs with
          | none=>simp [hv,hr] at hx
          | some b=>
            rcases List.mem_cons.1 hu with rfl|hu
            ·unfold oC at hv;split at hv<;>first|rfl|cases hv
            exact ih b hr u hu
     intro u hu;exact one _ _ h u (by simpa using hu)
theorem cm.flat {c:Cx} {k:Nat}:∀ {xs:List (List AV)} {b o:Nat},(∀ x∈xs,x.length=k)->bA c xs.flatten b o->cm c k xs b o
 | [],b,o,_,_=>by simp [cm]
 | x::xs,b,o,hk,h=>by simp only [cm];have hx:=hk x (by simp);simp only [List.flatten_cons] at h;have h1:=bA.take x.length h;have h2:=bA.drop x.length (by simp) h;simp at h1 h2;exact ⟨⟨hx,h1⟩,cm.flat (fun y hy=>hk y (by simp [hy])) (hx ▸ h2)⟩
theorem bA.append {c:Cx}:∀ {xs ys:List AV} {b o:Nat},bA c xs b o->bA c ys b (o+xs.length)->bA c (xs++ys) b o
 | [],ys,b,o,_,h=>by simpa using h
 | x::xs,ys,b,o,h,h'=>by simp only [List.cons_append,bA] at h ⊢;exact ⟨h.1,bA.append h.2 (by rw [show o+1+xs.length=o+(x::xs).length from by simp;omega];exact h')⟩
theorem cm.toFlat {c:Cx} {k:Nat}:∀ {xs:List (List AV)} {b o:Nat},cm c k xs b o->(∀ x∈xs,x.length=k)/\bA c xs.flatten b o
 | [],b,o,_=>by simp [bA]
 | x::xs,b,o,h=>by simp only [cm] at h;obtain ⟨⟨h1,h2⟩,h3⟩:=h;obtain ⟨e1,e2⟩:=cm.toFlat h3;refine ⟨fun y hy=>(List.mem_cons.1 hy).elim (fun e=>e ▸ h1) (e1 y),?_⟩;simp only [List.flatten_cons];exact bA.append h2 (h1 ▸ e2)
theorem lB {k:Nat}:∀ {xs:List (List AV)},(∀ x∈xs,x.length=k)->xs.flatten.length=xs.length*k
 | [],_=>by simp
 | x::xs,h=>by have ih:=lB (xs:=xs) (fun y hy=>h y (List.mem_cons_of_mem _ hy));have hx:=h x (List.mem_cons_self ..);simp only [List.flatten_cons,List.length_append,List.length_cons,ih,hx,Nat.add_mul,Nat.one_mul];omega
end Go.Abs
/-
 The abstract fS,part E: every operation that leaves the own objects alone does xV the BP ND.
-/
namespace Go.Abs
open Go
variable {P:Program} {n:Nat} {X:Nat->Prop} {g0:Gh} {r:aC} {h:af} {a:Act} {w:World}
theorem Fk (hc:bN n X g0 r h a w) {g:G} (hg:di a g) {size:Nat}:∀ {ps:List (Nat × Operand)} {k:Nat} {l:List (List AV)},
  iF r g size k ps=some l->∀ (cells:Array Value),(k+ps.length)*size<=cells.size->(∀ u∈cells,u.oneCell'=true) ->
  ∃ res us,Instr.fill (fun i=>some (i*size,size)) cells (ps.map fun (i,x)=>(i,a.eval x))=some res/\l.length=ps.length/\(∀ x∈l,x.length=size) /\
   ax ⟨g0,live X h,w⟩ l.flatten us/\us.length=ps.length*size/\res.toList=cells.toList.take (k*size)++us++cells.toList.drop ((k+ps.length)*size) /\
   (∀ u∈res,u.oneCell'=true)
 | [],k,l,he,cells,hs,h1=>by simp [iF] at he;subst he;exact ⟨cells,[],rfl,rfl,by simp,by simp [ax],by simp,by simp,h1⟩
 | (i,x)::ps,k,l,he,cells,hs,h1=>by
   unfold iF at he;split at he
   ·rename_i po;have po:=Nat.eq_of_beq_eq_true po;subst po;cases hx:aK r g x with
    | none=>simp [hx] at he
    | some v=>
      simp only [hx] at he;cases hv:ql v with
      | none=>simp [hv] at he
      | some y=>
        simp only [hv] at he;split at he
        ·rename_i hl;have hl:=Nat.eq_of_beq_eq_true hl;cases hr:iF r g size (i+1) ps with
         | none=>simp [hr] at he
         | some l'=>
           simp [hr] at he;subst he;have cN:=hc.aK hg hx;obtain ⟨bz,tY⟩:=Ah hv cN;have hlen:=bz.length;simp only [Array.length_toList] at hlen;have lA:(a.eval x).cells.size=size:=(by omega);simp only [List.length_cons] at hs;have e0:(i+(ps.length+1))*size=i*size+size+ps.length*size:=by simp only [Nat.add_mul,Nat.one_mul];omega
           have hb:i*size+(a.eval x).cells.size<=cells.size:=(by omega);have hf:=NB (a.eval x) (i*size) cells hb;have iG:((a.eval x).cells.zipIdx.foldl (fun cs (x:Value × Nat)=>cs.setIfInBounds (i*size+x.2) x.1) cells).size=cells.size:=by have:=congrArg List.length hf;simp only [Array.length_toList,List.length_append,List.length_take,List.length_drop] at this;omega
           obtain ⟨res,us,e1,e2,e3,e4,e5,e6,e7⟩:=Fk hc hg hr ((a.eval x).cells.zipIdx.foldl (fun cs (x:Value × Nat)=>cs.setIfInBounds (i*size+x.2) x.1) cells)
            (by rw [iG];rw [show i+1+ps.length=i+(ps.length+1) from by omega];exact hs)
            (fun u hu=>by
              have dA:u∈((a.eval x).cells.zipIdx.foldl (fun cs (x:Value × Nat)=>cs.setIfInBounds (i*size+x.2) x.1) cells).toList:=(by simpa using hu);rw [hf] at dA;simp only [List.mem_append] at dA;rcases dA with (dA|dA)|dA
              ·exact h1 u (by simpa using List.mem_of_mem_take dA)
              ·exact tY u (by simpa using dA)
              exact h1 u (by simpa using List.mem_of_mem_drop dA))
           refine ⟨res,(a.eval x).cells.toList++us,?_,by simp [e2],?_,?_,?_,?_,e7⟩
           ·simp only [List.map_cons];unfold Instr.fill;simp only [];rw [if_neg (by simp [lA];omega)];exact e1
           ·intro z hz;rcases List.mem_cons.1 hz with rfl|hz
            ·exact hl
            exact e3 z hz
           ·simp only [List.flatten_cons];exact ax.append bz e4
           ·simp only [List.length_append,Array.length_toList,e5,lA,List.length_cons,Nat.add_mul];omega
           rw [e6,hf];simp only [List.length_cons];have t1:(cells.toList.take (i*size)++(a.eval x).cells.toList++cells.toList.drop (i*size+(a.eval x).cells.size)).take ((i+1)*size)=cells.toList.take (i*size)++(a.eval x).cells.toList:=by rw [List.take_append_of_le_length (by simp only [List.length_append,List.length_take,Array.length_toList,Nat.add_mul];omega)];exact List.take_of_length_le (by simp only [List.length_append,List.length_take,Array.length_toList,Nat.add_mul];omega)
           rw [t1]
           have t2:(cells.toList.take (i*size)++(a.eval x).cells.toList++cells.toList.drop (i*size+(a.eval x).cells.size)).drop ((i+1+ps.length)*size)=cells.toList.drop ((i+(ps.length+1))*size):=by
            have hle:(cells.toList.take (i*size)++(a.eval x).cells.toList).length<=(i+1+ps.length)*size:=by simp only [List.length_append,List.length_take,Array.length_toList,Nat.add_mul];omega
            rw [List.drop_append,List.drop_of_length_le hle,List.nil_append,List.drop_drop];congr 1;simp only [List.length_append,List.length_take,Array.length_toList,Nat.add_mul];omega
           rw [t2];simp
        cases he
   cases he
theorem NF {t:TypeId} {x:AV} {u:Value} {K:AV->Prop} (hc:CW X g0 h w) (hu:aa ⟨g0,live X h,w⟩ x u)
  (hk:match x with
    | .au cs=>gy P t cs K
    | .bj b o=>∃ cs l,(b,Ob.vec cs)∈h/\jd o cs=some l/\gy P t l K
    | _=>False) :
  ∃ v s,K v/\aa ⟨g0,live X h,w⟩ v s/\(Instr.loadAt t u).run P w=.ok s w:=by
 cases x<;>try exact hk.elim
 case au cs=>
  rw [aa] at hu;obtain ⟨b,o,rfl,hr⟩:=hu;obtain ⟨v,s,h1,h2,h3⟩:=Ve hr hk;exact ⟨v,s,h1,h2,by simpa [Instr.loadAt,Instr.sureAddr] using h3⟩
 case bj b o=>
  rw [aa] at hu;obtain ⟨p,hp,hs,rfl⟩:=hu;obtain ⟨cs,l,hm,hd,hl⟩:=hk;obtain ⟨h1,rfl⟩:=yf hd;obtain ⟨p',aY,lC,us,e1,e2,e3,e4⟩:=Vf (hc.obj b _ hm);simp only at aY;rw [hp] at aY;cases aY
  obtain ⟨v,s,k1,k2,k3⟩:=Nk (P:=P) (t:=t) (b:=p.block) (o:=p.off+o) (us:=us.drop o) (c:=⟨g0,live X h,w⟩)
   (fun j u hu=>by rw [Nat.add_assoc];exact e2 (o+j) u (by simpa using hu)) (fun j u hu=>e3 (o+j) u (by simpa using hu)) (ax.drop o e4) hl
  exact ⟨v,s,k1,k2,by simpa [Instr.loadAt,Instr.sureAddr] using k3⟩
theorem NG {s:TypeId} {f:Nat} {fd:Field} (hf:uQ P s f=some fd):∃ fs,P.underlying s=some (.struct fs)/\fs[f]?=some fd:=by
 unfold uQ at hf;split at hf
 ·rename_i fs hu;exact ⟨fs,hu,by simpa using hf⟩
 cases hf
theorem NH {s:TypeId} {f:Nat} {fd:Field} (hf:uQ P s f=some fd) (hs:Nat.ble 1 (P.cellsOf fd.type)=true) (b o:Nat) :
  (Instr.fieldAt s (.pointer (some ⟨b,o,none⟩)) f).run P w=.ok (.pointer (some ⟨b,o+fd.offset,none⟩)) w:=by
 obtain ⟨fs,hu,hf⟩:=NG hf;have hs:=Nat.le_of_ble_eq_true hs
 have hi:∃ i,P.info? fd.type=some i:=by
  cases hi:P.info? fd.type with
  | none=>simp [Program.cellsOf,hi] at hs
  | some i=>exact ⟨i,rfl⟩
 obtain ⟨i,hi⟩:=hi;have aJ:P.cellsOf fd.type≠0:=(by omega);simp [Instr.fieldAt,cJ hu,hf,Instr.sureAddr,fieldPlace,pn hi,aJ,Addr.add]
theorem cm.get {c:Cx} {k:Nat}:∀ {xs:List (List AV)} {b o j:Nat} {y:List AV},cm c k xs b o->xs[j]?=some y->bA c y b (o+j*k)
 | [],b,o,j,y,_,h=>by simp at h
 | x::xs,b,o,0,y,hr,h=>by simp only [cm] at hr;simp at h;subst h;simpa using hr.1.2
 | x::xs,b,o,j+1,y,hr,h=>by simp only [cm] at hr;have:=cm.get hr.2 (by simpa using h);rw [show o+(j+1)*k=o+k+j*k from by rw [Nat.add_mul,Nat.one_mul];omega];exact this
theorem Vo (xs:Array Operand):(xs.map a.eval).toList=xs.toList.map a.eval:=by simp
theorem Fl {o:Oper} {f:FuncId} {cl:Call} (ho:o.op=.call cl) {bF:Array Value}
  (hv:∃ x,cl.callee=.value x/\a.eval x=.func (.func f) #[] bF) :
  (execOp a.eval o).run P w=(callFunc f (cl.args.map a.eval++bF)).run P w:=by
 obtain ⟨x,h1,h2⟩:=hv;simp only [execOp,ho,Sem.run_bind,resolve,h1,h2,Deferred.ofValue,Sem.run_pure,Result.andThen,invoke];simp only [Array.empty_append]
theorem Vp {c:Cx} {k:Nat} {t:Option Nat} {xs:List (List AV)} {base:Option Addr} {cap l m:Nat} (all:Bool) (hk:0<k)
  (hu:aa c (.sl k t xs) (.slice base xs.length cap)) (h1:l<=m) (h2:m<=xs.length) (ha:all=true->m=xs.length) :
  aa c (.sl k (Il all t) ((xs.take m).drop l)) (sliced base l m cap k):=by
 simp only [aa] at hu ⊢;obtain ⟨U7,U8,hv,e1,e2,e3,e4,e5,e6,e7⟩:=hu;injection hv with q1 q2 q3;subst q1;subst q3;have hlen:((xs.take m).drop l).length=m - l:=by simp;omega
 refine ⟨_,cap - l,by rw [hlen];rfl,by rw [hlen];omega,by rw [hlen];omega,hk,?_,?_,?_,?_⟩
 ·intro hb;cases base with
  | none=>have:=e4 rfl;omega
  | some a=>
    split at hb
    ·omega
    simp at hb
 ·intro a mN aJ;cases base with
  | none=>split at mN<;>simp at mN
  | some a0=>
    have hs:=e5 a0 rfl (fun e=>by subst e;simp at aJ);split at mN
    ·simp at mN;subst mN;exact hs
    simp at mN;subst mN;unfold Addr.add;split
    ·exact hs
    rfl
 ·intro a mN;cases base with
  | none=>split at mN<;>simp at mN
  | some a0=>
    have hr:=e6 a0 rfl;by_cases bz:cap=l
    ·have:(xs.take m).drop l=[]:=List.eq_nil_of_length_eq_zero (by rw [hlen];omega);rw [this];simp [cm]
    rw [if_neg bz] at mN;simp at mN;subst mN
    have key:∀ (l:Nat) (ys:List (List AV)) (b o:Nat),cm c k ys b o->cm c k (ys.drop l) b (o+l*k):=by
     intro l;induction l with
     | zero=>intro ys b o hy;simpa using hy
     | succ l ih=>
       intro ys b o hy;cases ys with
       | nil=>simp [cm]
       | cons y ys=>
         simp only [cm] at hy;have:=ih ys b (o+k) hy.2;rw [show o+(l+1)*k=o+k+l*k from by rw [Nat.add_mul,Nat.one_mul];omega];simpa using this
    have Vq:∀ (m:Nat) (ys:List (List AV)) (b o:Nat),cm c k ys b o->cm c k (ys.take m) b o:=by
     intro m;induction m with
     | zero=>intro ys b o hy;simp [cm]
     | succ m ih=>
       intro ys b o hy;cases ys with
       | nil=>simp [cm]
       | cons y ys=>
         simp only [cm,List.take_succ_cons] at hy ⊢;exact ⟨hy.1,ih ys b _ hy.2⟩
    have:=key l _ _ _ (Vq m _ _ _ hr);unfold Addr.add;split
    ·rename_i h0;rw [h0] at this;simpa using this
    exact this
 intro q hq;cases all with
 | false=>cases hq
 | true=>
   have hm:=ha rfl;simp only [Il] at hq;rcases e7 q hq with e7|⟨a0,rfl,hs,hp,hh⟩
   ·left;rw [hlen];omega
   by_cases bz:cap=l
   ·left;rw [hlen];omega
   right;rw [if_neg bz];have el:a0.off+xs.length*k=a0.off+l*k+(m - l)*k:=by rw [Nat.add_assoc,<- Nat.add_mul];congr 2;omega
   have ec:a0.off+cap*k=a0.off+l*k+(cap - l)*k:=by rw [Nat.add_assoc,<- Nat.add_mul];congr 2;omega
   refine ⟨⟨a0.block,a0.off+l*k,none⟩,?_,rfl,?_,?_⟩
   ·simp only [Option.map_some,Addr.add];split
    ·rename_i h0;rw [h0];cases a0;simp_all
    rfl
   ·rw [hlen,hp];simp only [el]
   simp only;rw [<- ec];exact hh
theorem Fm {t e:TypeId} {base:Option Addr} {len cap:Nat} (hu:P.underlying t=some (.slice e)) (hk:∃ i,P.info? e=some i) {ry rz:Option Value} {lo hi:Int}
  (pq:ry=none/\lo=0\/∃ k,ry=some (.int k lo)) (nI:rz=none/\hi=len\/∃ k,rz=some (.int k hi)) (h0:0<=lo) (h1:lo<=hi) (h2:hi<=cap) (hc:len<=cap) :
  (Instr.sliceAt t (.slice base len cap) ry rz none).run P w=.ok (sliced base lo.toNat hi.toNat cap (P.cellsOf e)) w:=by
 obtain ⟨i,dO⟩:=hk;have p1:0<=hi:=(by omega);have p2:hi<=cap:=(by omega);have b1:((hi.toNat:Nat):Int)=hi:=(by omega);have b2:hi=(len:Int)->hi.toNat=len:=(by omega);rcases pq with ⟨rfl,rfl⟩|⟨kl,rfl⟩
 ·rcases nI with ⟨rfl,e⟩|⟨kh,rfl⟩
  ·simp [Instr.sliceAt,cJ hu,Instr.slice,Instr.sliceBounds,pn dO,sliced,b2 e]
  simp [Instr.sliceAt,cJ hu,Instr.slice,Instr.sliceBounds,Instr.sliceBound,asIntOf,pn dO,sliced,p1,p2]
 rcases nI with ⟨rfl,e⟩|⟨kh,rfl⟩
 ·have:lo<=(len:Int):=(by omega);simp [Instr.sliceAt,cJ hu,Instr.slice,Instr.sliceBounds,Instr.sliceBound,asIntOf,pn dO,sliced,b2 e,h0,this]
 have:lo<=max hi 0:=(by omega);simp [Instr.sliceAt,cJ hu,Instr.slice,Instr.sliceBounds,Instr.sliceBound,asIntOf,pn dO,sliced,p1,p2,h0,b1,h1,this]
theorem Vr {t:TypeId} {s:ByteArray} (hu:P.underlying t=some .string) {ry rz:Option Value} {lo hi:Int}
  (pq:ry=none/\lo=0\/∃ k,ry=some (.int k lo)) (nI:rz=none/\hi=s.size\/∃ k,rz=some (.int k hi)) (h0:0<=lo) (h1:lo<=hi) (h2:hi<=s.size) :
  (Instr.sliceAt t (.string s) ry rz none).run P w=.ok (.string (s.extract lo.toNat hi.toNat)) w:=by
 have p1:0<=hi:=(by omega);have b1:((hi.toNat:Nat):Int)=hi:=(by omega);have b2:hi=(s.size:Int)->hi.toNat=s.size:=(by omega);rcases pq with ⟨rfl,rfl⟩|⟨kl,rfl⟩
 ·rcases nI with ⟨rfl,e⟩|⟨kh,rfl⟩
  ·simp [Instr.sliceAt,cJ hu,Instr.slice,Instr.sliceBounds,b2 e]
  simp [Instr.sliceAt,cJ hu,Instr.slice,Instr.sliceBounds,Instr.sliceBound,asIntOf,p1,h2]
 rcases nI with ⟨rfl,e⟩|⟨kh,rfl⟩
 ·have:lo<=(s.size:Int):=(by omega);simp [Instr.sliceAt,cJ hu,Instr.slice,Instr.sliceBounds,Instr.sliceBound,asIntOf,b2 e,h0,this]
 have:lo<=max hi 0:=(by omega);simp [Instr.sliceAt,cJ hu,Instr.slice,Instr.sliceBounds,Instr.sliceBound,asIntOf,p1,h2,h0,b1,h1,this]
theorem Vs {c:Cx} {g:G} (he:∀ e∈g,e.2.1=e.2.2) {t:TypeId} {x:AV} {u:Value} {lo hi:Int} {all:Bool} {K:AV->Prop} {ry rz:Option Value} {m:Nat}
  (h:pg g x lo hi all K) (hu:aa c x u) (hm:lenOf? x=some m) (bg:yb P t x=true)
  (pq:ry=none/\lo=0\/∃ k,ry=some (.int k lo)) (nI:rz=none/\hi=m/\all=true\/(∃ k,rz=some (.int k hi))/\all=false) :
  ∃ v s,K v/\aa c v s/\(Instr.sliceAt t u ry rz none).run P c.w=.ok s c.w:=by
 cases x<;>try (simp [lenOf?] at hm;done)
 case str s=>
  simp [lenOf?] at hm;subst hm;simp only [pg] at h;obtain ⟨hb,hk⟩:=h;obtain ⟨h0,h1,h2⟩:=qy he hb
  have Vt:P.underlying t=some .string:=by
   unfold yb at bg;cases br:P.underlying t with
   | none=>simp [br] at bg
   | some d=>cases d<;>simp_all
  rw [aa] at hu;obtain ⟨b,rfl,rfl,hl⟩:=hu;have iG:(b.data.toList.length:Int)=b.size:=rfl;rw [iG] at h2;refine ⟨_,_,hk,?_,Vr (w:=c.w) Vt pq (by rcases nI with ⟨e1,e2,_⟩|⟨e1,_⟩;exact .inl ⟨e1,e2⟩;exact .inr e1) h0 h1 h2⟩;rw [aa];refine ⟨_,rfl,?_,?_⟩
  ·rw [ByteArray.data_extract,Array.toList_extract,List.extract_eq_take_drop,List.drop_take]
  simp only [List.length_drop,List.length_take];omega
 case sl k q xs=>
  simp [lenOf?] at hm;subst hm;simp only [pg] at h;obtain ⟨hb,hk⟩:=h;obtain ⟨h0,h1,h2⟩:=qy he hb;unfold yb at bg;cases br:P.underlying t with
  | none=>simp [br] at bg
  | some d=>
  cases d<;>try (simp [br] at bg;done)
  rename_i e;simp only [br] at bg;have nJ:=Nat.eq_of_beq_eq_true bg;have dA:=hu;simp only [aa] at dA;obtain ⟨base,cap,rfl,e1,e2,e3,_⟩:=dA
  have dO:∃ i,P.info? e=some i:=by
   cases bC:P.info? e with
   | none=>simp [Program.cellsOf,bC] at nJ;omega
   | some i=>exact ⟨i,rfl⟩
  refine ⟨_,_,hk,?_,Fm (w:=c.w) br dO pq (by rcases nI with ⟨e1,e2,_⟩|⟨e1,_⟩;exact .inl ⟨e1,e2⟩;exact .inr e1) h0 h1 (by omega) e1⟩;rw [nJ];exact Vp (l:=lo.toNat) (m:=hi.toNat) all e3 hu (by omega) (by omega) (fun ha=>by rcases nI with ⟨_,e,_⟩|⟨_,e⟩;omega;simp [ha] at e)
 case aT=>
  simp [lenOf?] at hm;subst hm;simp only [pg] at h;obtain ⟨hb,hk⟩:=h;obtain ⟨h0,h1⟩:=qy he hb;unfold yb at bg;cases br:P.underlying t with
  | none=>simp [br] at bg
  | some d=>
  cases d<;>try (simp [br] at bg;done)
  rename_i e;simp only [br] at bg;have nJ:=Nat.le_of_ble_eq_true bg;rw [aa] at hu;subst hu
  have dO:∃ i,P.info? e=some i:=by
   cases bC:P.info? e with
   | none=>simp [Program.cellsOf,bC] at nJ
   | some i=>exact ⟨i,rfl⟩
  have hr:=Fm (w:=c.w) (base:=none) (len:=0) (cap:=0) br dO pq (by rcases nI with ⟨e1,e2,_⟩|⟨e1,_⟩;exact .inl ⟨e1,by omega⟩;exact .inr e1) (by omega) (by omega) (by omega) (Nat.le_refl 0);refine ⟨_,_,hk,?_,hr⟩;subst h0 h1;simp [aa,sliced]
 case aQ b off n k=>
  simp [lenOf?] at hm;subst hm;simp only [pg] at h;obtain ⟨hb,hk⟩:=h;obtain ⟨h0,h1,h2,h3⟩:=qy he hb;unfold yb at bg;cases br:P.underlying t with
  | none=>simp [br] at bg
  | some d=>
  cases d<;>try (simp [br] at bg;done)
  rename_i e;simp only [br] at bg;have nJ:=Nat.eq_of_beq_eq_true bg;rw [aa] at hu;obtain ⟨p,cap,o',x1,x2,rfl,x3,x4,x5,x6,x7,x8⟩:=hu
  have dO:∃ i,P.info? e=some i:=by
   cases bC:P.info? e with
   | none=>simp [Program.cellsOf,bC] at nJ;omega
   | some i=>exact ⟨i,rfl⟩
  refine ⟨_,_,hk,?_,Fm (w:=c.w) br dO pq (by rcases nI with ⟨e1,e2,_⟩|⟨e1,_⟩;exact .inl ⟨e1,e2⟩;exact .inr e1) h0 h1 (by omega) x3⟩;rw [nJ,aa];obtain ⟨cs,tt,ff,y1,y2⟩:=x6;have Iz:lo.toNat*k+(cap - lo.toNat)*k=cap*k:=(by rw [<- Nat.add_mul,Nat.add_sub_cancel' (by omega)]);by_cases bz:cap=lo.toNat
  ·refine ⟨p,cap - lo.toNat,o',x1,x2,?_,by omega,by omega,x5,⟨cs,tt,ff,y1,by omega⟩,by omega,by omega⟩;unfold sliced;rw [if_pos bz]
  have:=x7 (by omega);subst this;refine ⟨p,cap - lo.toNat,o'+lo.toNat*k,x1,x2,?_,by omega,by omega,x5,⟨cs,tt,ff,y1,by omega⟩,fun _=>rfl,by omega⟩;unfold sliced;rw [if_neg bz]
  have eP:(⟨p.block,p.off+o',none⟩:Addr).add (lo.toNat*k)=⟨p.block,p.off+(o'+lo.toNat*k),none⟩:=by
   unfold Addr.add;split
   ·rename_i h0;rw [h0];simp
   simp [Nat.add_assoc]
  simp only [Option.map_some,eP]
 case eM b off n cap k=>
  simp [lenOf?] at hm;subst hm;simp only [pg] at h;obtain ⟨hb,hk⟩:=h;obtain ⟨h0,h1,h2,h3⟩:=qy he hb;unfold yb at bg;cases br:P.underlying t with
  | none=>simp [br] at bg
  | some d=>
  cases d<;>try (simp [br] at bg;done)
  rename_i e;simp only [br] at bg;have nJ:=Nat.eq_of_beq_eq_true bg;rw [aa] at hu;obtain ⟨p,x1,x2,rfl,x3,x4,x5,x6,x8⟩:=hu
  have dO:∃ i,P.info? e=some i:=by
   cases bC:P.info? e with
   | none=>simp [Program.cellsOf,bC] at nJ;omega
   | some i=>exact ⟨i,rfl⟩
  refine ⟨_,_,hk,?_,Fm (w:=c.w) br dO pq (by rcases nI with ⟨e1,e2,_⟩|⟨e1,_⟩;exact .inl ⟨e1,e2⟩;exact .inr e1) h0 h1 h2 x3⟩;rw [nJ,aa];obtain ⟨cs,tt,ff,y1,y2⟩:=x6;have Iz:lo.toNat*k+(cap - lo.toNat)*k=cap*k:=(by rw [<- Nat.add_mul,Nat.add_sub_cancel' (by omega)]);unfold pf;by_cases bz:cap=lo.toNat
  ·rw [if_pos bz];refine ⟨p,x1,x2,?_,by omega,by unfold aw;omega,x5,⟨cs,tt,ff,y1,by omega⟩,by omega⟩;unfold sliced;rw [if_pos bz]
  rw [if_neg bz];refine ⟨p,x1,x2,?_,by omega,by unfold aw;omega,x5,⟨cs,tt,ff,y1,by omega⟩,by omega⟩;unfold sliced;rw [if_neg bz]
  have eP:(⟨p.block,p.off+off,none⟩:Addr).add (lo.toNat*k)=⟨p.block,p.off+(off+lo.toNat*k),none⟩:=by
   unfold Addr.add;split
   ·rename_i h0;rw [h0];simp
   simp [Nat.add_assoc]
  simp only [Option.map_some,eP]
set_option maxHeartbeats 1000000 in
theorem Fo {o:Oper} {g:G} {K:AV->Prop} {next:Act->World->Prop} {Q:Exit->Act->World->Prop}
  (hq:bM P r g h K o.op) (hc:bN n X g0 r h a w) (hg:di a g) (he:∀ e∈g,e.2.1=e.2.2) (hn:Nx X g0 h w K o.dst a next):o.wp P a w next Q:=by
 obtain ⟨dst,op,ty,pos,gO,gd⟩:=o;simp only at hq hn;cases op
 case move x=>
  simp only [bM] at hq;cases hx:aK r g x with
  | none=>simp [hx] at hq
  | some v=>simp only [hx] at hq;exact fu hc hn hq (hc.aK hg hx) (by simp [execOp])
 case assign x=>
  simp only [bM] at hq;cases hx:aK r g x with
  | none=>simp [hx] at hq
  | some v=>simp only [hx] at hq;exact fu hc hn hq (hc.aK hg hx) (by simp [execOp])
 case pick x y z=>
  unfold bM at hq;split at hq<;>try contradiction
  ·rename_i t ta heq;injection heq with e1 e2 e3;subst e1;subst e2;subst e3;cases ht:aK r g (.tmp t) with
   | none=>simp [ht] at hq
   | some vt=>
     cases vt<;>simp [ht] at hq
     rename_i b;cases ha:aK r (g++[(t,b,true)]) (.tmp ta) with
     | none=>simp [ha] at hq
     | some va=>
       cases va<;>simp [ha] at hq
       rename_i xb;have pt:=hc.aK hg ht;rw [aa] at pt;cases b with
       | false=>exact fu (v:=.bool false) (u:=.bool false) hc hn (by simpa using hq) (by rw [aa]) (by have e1:a.eval (.const (.bool false))=.bool false:=rfl;have e2:a.eval (.const (.bool true))=.bool true:=rfl;simp [execOp,pt,asBool,e1,e2])
       | true=>
         have yh:a.tmps[t]?=some (.bool true):=by
          cases hh:a.tmps[t]? with
          | none=>simp [Act.eval,hh,undef] at pt
          | some u=>simp [Act.eval,hh] at pt;rw [pt]
         have BY:=hc.aK (g:=g++[(t,true,true)]) (fun e BZ=>by
          rcases List.mem_append.1 BZ with h1|h1
          ·exact hg e h1
          simp at h1;subst h1;exact yh) ha
         rw [aa] at BY;exact fu (v:=.bool xb) (u:=.bool xb) hc hn (by simpa using hq) (by rw [aa]) (by simp [execOp,pt,BY,asBool])
  rename_i t ta heq;injection heq with e1 e2 e3;subst e1;subst e2;subst e3;cases ht:aK r g (.tmp t) with
  | none=>simp [ht] at hq
  | some vt=>
    cases vt<;>simp [ht] at hq
    rename_i b;cases ha:aK r (g++[(t,b,false)]) (.tmp ta) with
    | none=>simp [ha] at hq
    | some va=>
      cases va<;>simp [ha] at hq
      rename_i xb;have pt:=hc.aK hg ht;rw [aa] at pt;cases b with
      | true=>exact fu (v:=.bool true) (u:=.bool true) hc hn (by simpa using hq) (by rw [aa]) (by have e1:a.eval (.const (.bool false))=.bool false:=rfl;have e2:a.eval (.const (.bool true))=.bool true:=rfl;simp [execOp,pt,asBool,e1,e2])
      | false=>
        have yh:a.tmps[t]?=some (.bool false):=by
         cases hh:a.tmps[t]? with
         | none=>simp [Act.eval,hh,undef] at pt
         | some u=>simp [Act.eval,hh] at pt;rw [pt]
        have BY:=hc.aK (g:=g++[(t,false,false)]) (fun e BZ=>by
         rcases List.mem_append.1 BZ with h1|h1
         ·exact hg e h1
         simp at h1;subst h1;exact yh) ha
        rw [aa] at BY;exact fu (v:=.bool xb) (u:=.bool xb) hc hn (by simpa using hq) (by rw [aa]) (by simp [execOp,pt,BY,asBool])
 case binOp op t x y yt=>
  simp only [bM] at hq;cases hx:aK r g x with
  | none=>simp [hx] at hq
  | some u=>
    cases hy:aK r g y with
    | none=>simp [hx,hy] at hq
    | some v=>
      simp only [hx,hy] at hq;obtain ⟨z,s,h1,h2,h3⟩:=Vj (ox:=x) (oy:=y) he hq (hc.aK hg hx) (hc.aK hg hy);refine fu hc hn h1 h2 ?_;simp only [execOp,Sem.run_bind,h3,Result.andThen,Sem.run_pure]
 case unOp op t x=>
  unfold bM at hq;split at hq<;>try contradiction
  rename_i t' x' heq;injection heq with e1 e2 e3;subst e1;subst e2;subst e3;cases hx:aK r g x with
  | none=>simp [hx] at hq
  | some v=>
    cases v<;>simp [hx] at hq
    rename_i b;have hr:=hc.aK hg hx;rw [aa] at hr;exact fu (v:=.bool !b) (u:=.bool !b) hc hn hq (by rw [aa]) (by simp [execOp,hr,Op.unary])
 case fieldAddr s x f=>
  simp only [bM] at hq;cases hx:aK r g x with
  | none=>simp [hx] at hq
  | some v=>
    have hr:=hc.aK hg hx;cases v<;>try (simp [hx] at hq;done)
    case au cs=>
     simp only [hx] at hq;cases hf:uQ P s f with
     | none=>simp [hf] at hq
     | some fd=>
       simp only [hf] at hq;cases hd:jd fd.offset cs with
       | none=>simp [hd] at hq
       | some l=>
         simp only [hd] at hq;split at hq
         ·rename_i hs;obtain ⟨d1,rfl⟩:=yf hd;rw [aa] at hr;obtain ⟨b,rA,hv,bV⟩:=hr;refine fu (u:=.pointer (some ⟨b,rA+fd.offset,none⟩)) hc hn hq ?_ ?_
          ·rw [aa];exact ⟨b,_,rfl,bA.drop _ d1 bV⟩
          simp [execOp,hv,NH hf hs]
         exact hq.elim
    case bj b rA=>
     simp only [hx] at hq;cases hf:uQ P s f with
     | none=>simp [hf] at hq
     | some fd=>
       simp only [hf] at hq;split at hq
       ·rename_i hs;rw [aa] at hr;obtain ⟨p,hp,jf,hv⟩:=hr;refine fu (u:=.pointer (some ⟨p.block,p.off+rA+fd.offset,none⟩)) hc hn hq ?_ ?_
        ·rw [aa];exact ⟨p,hp,jf,by rw [Nat.add_assoc]⟩
        simp [execOp,hv,NH hf hs]
       exact hq.elim
 case load t x=>
  simp only [bM] at hq;cases hx:aK r g x with
  | none=>simp [hx] at hq
  | some v=>
    simp only [hx] at hq;obtain ⟨z,s,h1,h2,h3⟩:=NF (t:=t) (K:=K) hc.cw (hc.aK hg hx) (by cases v<;>exact hq)
    exact fu hc hn h1 h2 (by simp [execOp,h3])
 case nilCheck x=>
  simp only [bM] at hq;cases hx:aK r g x with
  | none=>simp [hx] at hq
  | some v=>
    have hr:=hc.aK hg hx;cases v<;>try (simp [hx] at hq;done)
    case au cs=>
     simp only [hx] at hq;refine fu hc hn hq hr ?_;rw [aa] at hr;obtain ⟨b,rA,hv,_⟩:=hr;simp [execOp,hv]
    case bj b rA=>
     simp only [hx] at hq;refine fu hc hn hq hr ?_;rw [aa] at hr;obtain ⟨p,_,_,hv⟩:=hr;simp [execOp,hv]
 case field s x f=>
  simp only [bM] at hq;cases hx:aK r g x with
  | none=>simp [hx] at hq
  | some v=>
    have hr:=hc.aK hg hx;cases v<;>try (simp [hx] at hq;done)
    rename_i cs;simp only [hx] at hq;cases hf:uQ P s f with
    | none=>simp [hf] at hq
    | some fd=>
      simp only [hf] at hq;cases hd:jd fd.offset cs with
      | none=>simp [hd] at hq
      | some l=>
        simp only [hd] at hq;obtain ⟨d1,rfl⟩:=yf hd;rw [aa] at hr;obtain ⟨us,hv,ho,bd⟩:=hr;obtain ⟨fs,hu,NI⟩:=NG hf;have jr:=ax.drop fd.offset bd;unfold gy at hq;cases uW:nF P fd.type with
        | none=>simp [uW] at hq
        | some bb=>
        obtain ⟨Fc,d,eQ⟩:=Ir (w:=w) uW;obtain ⟨i,hi⟩:=Nj eQ;cases bb with
        | true=>
          simp only [uW] at hq;cases ht:takeN (P.cellsOf fd.type) (cs.drop fd.offset) with
          | none=>simp [ht] at hq
          | some l=>
            simp only [ht] at hq;obtain ⟨t1,rfl⟩:=Fb ht;refine fu (u:=.agg (us.extract fd.offset (fd.offset+P.cellsOf fd.type))) hc hn hq ?_ ?_
            ·rw [aa];refine ⟨_,rfl,fun u hu=>?_,?_⟩
             ·have dA:u∈(us.extract fd.offset (fd.offset+P.cellsOf fd.type)).toList:=Array.mem_toList_iff.2 hu;rw [Array.toList_extract,List.extract_eq_take_drop] at dA;exact ho u (by simpa using List.mem_of_mem_drop (List.mem_of_mem_take dA))
             rw [Array.toList_extract,List.extract_eq_take_drop];simpa using ax.take (P.cellsOf fd.type) jr
            simp [execOp,hv,Instr.field,cJ hu,NI,asAgg,part,Fc,pn hi]
        | false=>
          simp only [uW] at hq;cases hl:cs.drop fd.offset with
          | nil=>simp [hl] at hq
          | cons y l=>
            simp only [hl] at hq;rw [hl] at jr;simp only [ax] at jr;obtain ⟨u,rr,e,h4,_⟩:=jr;refine fu (u:=u) hc hn hq h4 ?_;have lD:us[fd.offset]?=some u:=by have:=congrArg (·[0]?) e;simpa using this
            simp [execOp,hv,Instr.field,cJ hu,NI,asAgg,part,Fc,lD]
 case box t x=>
  simp only [bM] at hq;cases hx:aK r g x with
  | none=>simp [hx] at hq
  | some v=>
    simp only [hx] at hq;cases hv:ql v with
    | none=>simp [hv] at hq
    | some l=>
      simp only [hv] at hq;split at hq
      ·have hr:=hc.aK hg hx;obtain ⟨h1,h2⟩:=Ah hv hr;obtain ⟨c1,c2⟩:=hc.cw.alloc (.cells (a.eval x).cells t);refine eh (u:=.pointer (some ⟨w.heap.size,0,none⟩)) (w':=w.alloc (.cells (a.eval x).cells t)) ?_ (hn _ g0 _ _ hq c1 ?_ c2)
       ·simp [execOp,Instr.box,newVar,newRow]
       rw [aa];exact ⟨_,_,rfl,bA.new hc.cw h1 h2⟩
      exact hq.elim
 case indexAddr t x i=>
  simp only [bM] at hq;cases br:P.underlying t with
  | none=>simp [br] at hq
  | some d=>
  cases d<;>try (simp [br] at hq;done)
  case array m e=>
   simp only [br] at hq;cases bC:P.info? e with
   | none=>simp [bC] at hq
   | some ie=>
   simp only [bC] at hq;cases hx:aK r g x with
   | none=>simp [hx] at hq
   | some v=>
     have hr:=hc.aK hg hx;cases v<;>try (simp [hx] at hq;done)
     rename_i cs;simp only [hx] at hq;cases hi:aK r g i with
     | none=>simp [hi] at hq
     | some vi=>
       cases vi<;>try (simp [hi] at hq;done)
       rename_i ki m';simp only [hi] at hq;obtain ⟨j,l,sD,hd,hK⟩:=hq;obtain ⟨rfl,gl⟩:=qy he sD;obtain ⟨d1,rfl⟩:=yf hd;have kB:=hc.aK hg hi;rw [aa] at kB;obtain ⟨kB,_⟩:=kB;rw [aa] at hr;obtain ⟨b,rA,hv,bV⟩:=hr;refine fu (u:=.pointer (some ⟨b,rA+j*P.cellsOf e,none⟩)) hc hn hK ?_ ?_
       ·rw [aa];exact ⟨b,_,rfl,bA.drop _ d1 bV⟩
       have eP:(⟨b,rA,none⟩:Addr).add (j*P.cellsOf e)=⟨b,rA+j*P.cellsOf e,none⟩:=by
        unfold Addr.add;split
        ·rename_i h0;rw [h0];rfl
        rfl
       simp [execOp,hv,kB,Instr.indexAt,Instr.sureAddr,asIntOf,cJ br,gl,pn bC,eP]
  rename_i e;simp only [br] at hq;cases hx:aK r g x with
  | none=>simp [hx] at hq
  | some v=>
    have hr:=hc.aK hg hx;cases v<;>try (simp [hx] at hq;done)
    case sl k q xs=>
     simp only [hx] at hq;split at hq<;>try contradiction
     rename_i hk;have hk:=Nat.eq_of_beq_eq_true hk;cases hi:aK r g i with
     | none=>simp [hi] at hq
     | some vi=>
       cases vi<;>try (simp [hi] at hq;done)
       rename_i ki m;simp only [hi] at hq;obtain ⟨j,y,sD,hK⟩:=hq;obtain ⟨rfl,hj⟩:=qy he sD;have kB:=hc.aK hg hi;rw [aa] at kB;obtain ⟨kB,_⟩:=kB;simp only [aa] at hr;obtain ⟨base,cap,hv,e1,e2,e3,e4,e5,e6,e7⟩:=hr;have gl:j<xs.length:=(List.getElem?_eq_some_iff.1 hj).1;cases base with
       | none=>have:=e4 rfl;omega
       | some ad=>
         have hs:=e5 ad rfl (fun e=>by subst e;simp at gl);have bV:=cm.get (e6 ad rfl) hj
         have bC:∃ i,P.info? e=some i:=by
          cases bC:P.info? e with
          | none=>simp [Program.cellsOf,bC] at hk;omega
          | some i=>exact ⟨i,rfl⟩
         obtain ⟨ie,bC⟩:=bC;refine fu (u:=.pointer (some ⟨ad.block,ad.off+j*k,none⟩)) hc hn hK ?_ ?_
         ·rw [aa];exact ⟨_,_,rfl,bV⟩
         have eP:ad.add (j*k)=⟨ad.block,ad.off+j*k,none⟩:=by
          unfold Addr.add;split
          ·rename_i h0;rw [h0];cases ad;simp_all
          rfl
         simp [execOp,hv,kB,Instr.indexAt,asIntOf,cJ br,gl,pn bC,<- hk,eP]
    case aQ b off len k=>
     simp only [hx] at hq;split at hq<;>try contradiction
     rename_i hk;have hk:=Nat.eq_of_beq_eq_true hk;cases hi:aK r g i with
     | none=>simp [hi] at hq
     | some vi=>
       cases vi<;>try (simp [hi] at hq;done)
       rename_i ki m;simp only [hi] at hq;obtain ⟨j,sD,hK⟩:=hq;obtain ⟨rfl,gl⟩:=qy he sD;have kB:=hc.aK hg hi;rw [aa] at kB;obtain ⟨kB,_⟩:=kB;obtain ⟨p,cap,hp,hs,hv,e1,e2,e3,e4,_⟩:=hr.BO (by omega)
       have bC:∃ i,P.info? e=some i:=by
        cases bC:P.info? e with
        | none=>simp [Program.cellsOf,bC] at hk;omega
        | some i=>exact ⟨i,rfl⟩
       obtain ⟨ie,bC⟩:=bC;refine fu (u:=.pointer (some ⟨p.block,p.off+off+j*k,none⟩)) hc hn hK ?_ ?_
       ·rw [aa];exact ⟨p,hp,hs,by rw [Nat.add_assoc]⟩
       have eP:(⟨p.block,p.off+off,none⟩:Addr).add (j*k)=⟨p.block,p.off+off+j*k,none⟩:=by
        unfold Addr.add;split
        ·rename_i h0;rw [h0];rfl
        rfl
       simp [execOp,hv,kB,Instr.indexAt,asIntOf,cJ br,gl,pn bC,<- hk,eP]
 case index t x i=>
  simp only [bM] at hq;cases br:P.underlying t with
  | none=>simp [br] at hq
  | some d=>
  cases d<;>try (simp [br] at hq;done)
  simp only [br] at hq;cases hx:aK r g x with
  | none=>simp [hx] at hq
  | some v=>
    have hr:=hc.aK hg hx;cases v<;>try (simp [hx] at hq;done)
    rename_i s;simp only [hx] at hq;cases hi:aK r g i with
    | none=>simp [hi] at hq
    | some vi=>
      cases vi<;>try (simp [hi] at hq;done)
      rename_i ki m;simp only [hi] at hq;obtain ⟨j,y,sD,hK⟩:=hq;obtain ⟨rfl,hj⟩:=qy he sD;have kB:=hc.aK hg hi;rw [aa] at kB;rw [aa] at hr;obtain ⟨kB,_⟩:=kB;obtain ⟨b,hv,rfl,hl⟩:=hr;refine fu (u:=.int .u8 (y.toNat:Int)) hc hn hK ?_ ?_
      ·rw [aa];refine ⟨rfl,?_⟩;have:=y.toNat_lt;constructor<;>simp [IntKind.min,IntKind.max,IntKind.signed,IntKind.bits]<;>omega
      have yi:b[j]?=some y:=by have:b.data[j]?=some y:=(by simpa using hj);obtain ⟨aI,e⟩:=Array.getElem?_eq_some_iff.1 this;have Fp:j<b.size:=aI;simp only [getElem?_pos b j Fp];exact congrArg some e
      simp [execOp,hv,kB,Instr.index,asIntOf,cJ br,yi]
 case extract x i=>
  simp only [bM] at hq;cases hx:aK r g x with
  | none=>simp [hx] at hq
  | some v=>
    have hr:=hc.aK hg hx;cases v<;>try (simp [hx] at hq;done)
    rename_i vs;simp only [hx] at hq;cases hd:jd i vs with
    | none=>simp [hd] at hq
    | some l=>
      simp only [hd] at hq;obtain ⟨d1,rfl⟩:=yf hd;cases hl:vs.drop i with
      | nil=>simp [hl] at hq
      | cons y l=>
        simp only [hl] at hq;rw [aa] at hr;obtain ⟨us,hv,bd⟩:=hr;have jr:=ax.drop i bd;rw [hl] at jr;simp only [ax] at jr;obtain ⟨u,rr,e,h4,_⟩:=jr;have lD:us[i]?=some u:=by have:=congrArg (·[0]?) e;simpa using this
        exact fu (u:=u) hc hn hq h4 (by simp [execOp,hv,Instr.extract,lD])
 case build t parts=>
  simp only [bM] at hq
  have NJ:∀ (qs:List (Nat × Operand)) (ps:List (Nat × AV)),partsOf r g qs=some ps->(qs.map fun (i,x)=>(i,a.eval x)).map (·.1)=ps.map (·.1) /\
    ∀ (i:Nat) (p:Nat × AV) (v:Nat × Value),ps[i]?=some p->(qs.map fun (i,x)=>(i,a.eval x))[i]?=some v->aa ⟨g0,live X h,w⟩ p.2 v.2:=by
   intro qs;induction qs with
   | nil=>intro ps hh;simp [partsOf] at hh;subst hh;simp
   | cons q qs ih=>
     intro ps hh;obtain ⟨i0,x0⟩:=q;unfold partsOf at hh;cases hx:aK r g x0 with
     | none=>simp [hx] at hh
     | some v0=>
       cases hr:partsOf r g qs with
       | none=>simp [hx,hr] at hh
       | some l=>
         simp [hx,hr] at hh;subst hh;obtain ⟨i1,i2⟩:=ih l hr;refine ⟨by simpa using i1,fun i p v hp hv=>?_⟩;cases i with
         | zero=>simp at hp hv;subst hp;subst hv;exact hc.aK hg hx
         | succ i=>exact i2 i p v (by simpa using hp) (by simpa using hv)
  cases br:P.underlying t with
  | none=>simp [br] at hq
  | some d=>
  cases d<;>try (simp [br] at hq;done)
  case array m e=>
   simp only [br] at hq;cases bC:P.info? e with
   | none=>simp [bC] at hq
   | some ie=>
   simp only [bC] at hq;cases iH:partsOf r g parts.toList with
   | none=>simp [iH] at hq
   | some ps=>
   simp only [iH] at hq;cases hz:jc P t with
   | none=>simp [hz] at hq
   | some z=>
   simp only [hz] at hq;cases hf:wz ps (fun i=>some (i*ie.size,ie.size)) z with
   | none=>simp [hf] at hq
   | some cs=>
   simp only [hf] at hq;obtain ⟨i1,i2⟩:=NJ _ _ iH;obtain ⟨it,zv,IA,fV,fg,uY⟩:=nH (c:=⟨g0,live X h,w⟩) hz;obtain ⟨res,e1,e2,e3⟩:=Iy (c:=⟨g0,live X h,w⟩) hf i1 i2 fg uY;refine fu (u:=.agg res) hc hn hq ?_ ?_
   ·rw [aa];exact ⟨_,rfl,e3,e2⟩
   have hb:P.built t (parts.map fun (i,x)=>(i,a.eval x)).toList=some res:=by simp only [Program.built,IA,br,fV,bC];simpa using e1
   simp [execOp,run_build w t _ res hb]
  case struct fs=>
   simp only [br] at hq;cases hp:placesOf P fs.toList with
   | none=>simp [hp] at hq
   | some pl=>
   simp only [hp] at hq;cases iH:partsOf r g parts.toList with
   | none=>simp [iH] at hq
   | some ps=>
   simp only [iH] at hq;cases hz:jc P t with
   | none=>simp [hz] at hq
   | some z=>
   simp only [hz] at hq;cases hf:wz ps (fun i=>pl[i]?) z with
   | none=>simp [hf] at hq
   | some cs=>
   simp only [hf] at hq;obtain ⟨i1,i2⟩:=NJ _ _ iH;obtain ⟨it,zv,IA,fV,fg,uY⟩:=nH (c:=⟨g0,live X h,w⟩) hz;obtain ⟨res,e1,e2,e3⟩:=Iy (c:=⟨g0,live X h,w⟩) hf i1 i2 fg uY;refine fu (u:=.agg res) hc hn hq ?_ ?_
   ·rw [aa];exact ⟨_,rfl,e3,e2⟩
   have hb:P.built t (parts.map fun (i,x)=>(i,a.eval x)).toList=some res:=by simp only [Program.built,IA,br,fV,NC hp];simpa using e1
   simp [execOp,run_build w t _ res hb]
 case buildSlice t m parts=>
  simp only [bM] at hq;cases br:P.underlying t with
  | none=>simp [br] at hq
  | some d=>
  cases d<;>try (simp [br] at hq;done)
  rename_i e;simp only [br] at hq;cases hl:iF r g (P.cellsOf e) 0 parts.toList with
  | none=>simp [hl] at hq
  | some l=>
  simp only [hl] at hq;split at hq<;>try contradiction
  rename_i q1;split at hq<;>try contradiction
  rename_i q2;split at hq<;>try contradiction
  rename_i q3;cases hz:jc P e with
  | none=>simp [hz] at hq
  | some z=>
  simp only [hz] at hq;split at hq<;>try contradiction
  rename_i q4;have q1:=Nat.eq_of_beq_eq_true q1;have q2:=Nat.le_of_ble_eq_true q2;have q3:=Nat.le_of_ble_eq_true q3;have q4:=Nat.eq_of_beq_eq_true q4;obtain ⟨ie,zv,bC,fV,fg,uY⟩:=nH (c:=⟨g0,live X h,w⟩) hz;have iG:ie.size=P.cellsOf e:=(by simp [Program.cellsOf,bC]);have iI:zv.cells.size=P.cellsOf e:=by have:=fg.length;simp at this;omega
  have Ca:∀ u∈(Array.range (m*P.cellsOf e)).map (zv.cells[· % zv.cells.size]!),u.oneCell'=true:=by intro u hu;obtain ⟨j,hj,rfl⟩:=Array.mem_map.1 hu;have aI:j % zv.cells.size<zv.cells.size:=Nat.mod_lt _ (by omega);rw [getElem!_pos zv.cells _ aI];exact uY _ (Array.getElem_mem _)
  by_cases hm:m=0
  ·subst hm;have dF:l=[]:=List.eq_nil_of_length_eq_zero q1;subst dF
   have iH:parts.toList=[]:=by
    cases hh:parts.toList with
    | nil=>rfl
    | cons q qs=>
      rw [hh] at hl;obtain ⟨i0,x0⟩:=q;unfold iF at hl
      (repeat' split at hl)<;>simp_all
   have hD:parts=#[]:=(by simpa using iH);obtain ⟨c1,c2⟩:=hc.cw.alloc (.cells #[] e);refine eh (u:=.slice (some ⟨w.heap.size,0,none⟩) 0 0) (w':=w.alloc (.cells #[] e)) ?_ (hn _ g0 _ _ hq c1 ?_ c2)
   ·have e0:(Array.map (fun _=>(default:Value)) (Array.range 0))=#[]:=(by simp [Array.range]);simp [execOp,Instr.buildSlice,cJ br,pn bC,hD,Instr.fill,newRow,e0]
   simp only [aa];exact ⟨_,0,rfl,by simp,by simp,by omega,by simp,by simp,by simp [cm],by simp⟩
  obtain ⟨res,us,e1,e2,e3,e4,e5,e6,e7⟩:=Fk hc hg hl ((Array.range (m*P.cellsOf e)).map (zv.cells[· % zv.cells.size]!))
   (by
     have:∀ (ps:List (Nat × Operand)) (k:Nat) (l:List (List AV)),iF r g (P.cellsOf e) k ps=some l->l.length=ps.length:=by
      intro ps;induction ps with
      | nil=>intro k l hh;simp [iF] at hh;subst hh;rfl
      | cons q qs ih=>
        intro k l hh;obtain ⟨i0,x0⟩:=q;unfold iF at hh;split at hh<;>try contradiction
        split at hh<;>try contradiction
        split at hh<;>try contradiction
        split at hh<;>try contradiction
        split at hh<;>try contradiction
        rename_i l' hr;cases hh
        simp [ih _ _ hr]
     have:=this _ _ _ hl;rw [Nat.zero_add,<- this,q1];simp) Ca
  have gQ:parts.toList.length=m:=(by omega);have NK:0<m*P.cellsOf e:=Nat.mul_pos (by omega) (by omega);have wD:res.toList=us:=by rw [e6];simp only [Nat.zero_mul,List.take_zero,List.nil_append,Nat.zero_add,gQ];rw [List.drop_of_length_le (by simp)];simp
  have bx:=run_buildSlice (P:=P) w t e m (parts.map fun (i,x)=>(i,a.eval x)) res ie zv br bC fV (by rw [iG];omega) (by rw [iG];omega)
   (by rw [iG];simpa using e1)
  obtain ⟨c1,c2⟩:=hc.cw.alloc (.cells res e);refine eh (u:=.slice (some ⟨w.heap.size,0,none⟩) m m) (w':=w.alloc (.cells res e)) ?_ (hn _ g0 _ _ hq c1 ?_ c2)
  ·simp [execOp,bx]
  have bV:=bA.new (t:=e) (us:=res) hc.cw (by rw [wD];exact e4) e7;simp only [aa];have NL:m<=65536:=Nat.le_trans (Nat.le_mul_of_pos_right m (by omega)) q3;refine ⟨_,m,by rw [q1],by omega,by rw [q1];unfold aw;omega,by omega,by simp,by simp,?_,by simp⟩;intro ad ha;simp at ha;subst ha;exact cm.flat e3 bV
 case slice t x lo hi mx=>
  cases mx with
  | some _=>simp [bM] at hq
  | none=>
  simp only [bM] at hq;cases hx:aK r g x with
  | none=>simp [hx] at hq
  | some v=>
  simp only [hx] at hq;split at hq<;>try contradiction
  rename_i bg;cases hm:lenOf? v with
  | none=>simp [hm] at hq
  | some m=>
  simp only [hm] at hq;cases pq:ph r g lo 0 with
  | none=>simp [pq] at hq
  | some la=>
  simp only [pq] at hq;cases nI:ph r g hi (m:Int) with
  | none=>simp [nI] at hq
  | some ha=>
  simp only [nI] at hq
  have hint:∀ (oo:Option Operand) (d z:Int),ph r g oo d=some z->(oo=none/\z=d)\/∃ y k,oo=some y/\a.eval y=.int k z:=by
   intro oo d z hz;cases oo with
   | none=>simp [ph] at hz;exact .inl ⟨rfl,hz.symm⟩
   | some y=>
     right;unfold ph at hz;simp only at hz;cases hy:aK r g y with
     | none=>simp [hy] at hz
     | some vy=>
       simp only [hy] at hz;have Cb:=hc.aK hg hy;cases vy<;>simp [intOf?] at hz
       subst hz;rw [aa] at Cb;exact ⟨y,_,rfl,Cb.1⟩
  obtain ⟨z,s,k1,k2,k3⟩:=Vs (t:=t) (ry:=lo.map a.eval) (rz:=hi.map a.eval) he hq (hc.aK hg hx) hm bg
   (by
     rcases hint _ _ _ pq with ⟨e1,e2⟩|⟨y,k,e1,e2⟩
     ·exact .inl ⟨by simp [e1],e2⟩
     exact .inr ⟨k,by simp [e1,e2]⟩)
   (by
     rcases hint _ _ _ nI with ⟨e1,e2⟩|⟨y,k,e1,e2⟩
     ·subst e1;exact .inl ⟨rfl,e2,rfl⟩
     subst e1;exact .inr ⟨⟨k,by simp [e2]⟩,rfl⟩)
  exact fu hc hn k1 k2 (by simp [execOp,k3])
 case convert s t x=>
  simp only [bM] at hq;cases bd:P.underlying s with
  | none=>simp [bd] at hq
  | some ds=>
  cases br:P.underlying t with
  | none=>simp [bd,br] at hq
  | some d=>
  cases hx:aK r g x with
  | none=>cases d<;>simp [bd,br,hx] at hq
  | some v=>
  have hr:=hc.aK hg hx;simp only [bd,br,hx] at hq;cases d<;>try (simp at hq;done)
  case int k=>
   cases v<;>try (simp at hq;done)
   rename_i k' m;simp only at hq;rw [aa] at hr;obtain ⟨hv,_⟩:=hr;obtain ⟨z,h1,h2⟩:=BV (c:=⟨g0,live X h,w⟩) he hq;refine fu hc hn h1 h2 ?_;simp [execOp,convert,hv,cJ br,cJ bd,Conv.intToInt]
  case string=>
   cases v<;>try (simp at hq;done)
   ·rename_i bs;simp only at hq;refine fu hc hn hq hr ?_;rw [aa] at hr;obtain ⟨b,hv,_⟩:=hr;simp [execOp,convert,hv,cJ br,cJ bd]
   rename_i k tk xs
   match k,hq,hr with
   | 1,hq,hr=>
   simp only [uR,bd] at hq;cases ds<;>try (simp at hq;done)
   rename_i e;simp only at hq;split at hq<;>try contradiction
   rename_i Vu;obtain ⟨ns,⟨rfl,aJ,hlen⟩,hK⟩:=hq;rw [aa] at hr;obtain ⟨base,cap,hv,e1,e2,e3,e4,e5,e6,e7⟩:=hr;simp only [List.length_map] at hv e1 e2;cases base with
   | none=>
     have:=e4 rfl;have:ns.length≠0:=(by simpa using aJ);omega
   | some ad=>
     have hs:ad.spot=none:=e5 ad rfl (by simpa using aJ);obtain ⟨f1,f2⟩:=cm.toFlat (e6 ad rfl);obtain ⟨us,g1,g2,g3⟩:=bA.load f2;have dP:(ns.map (fun n=>[AV.int .i32 n])).flatten=ns.map (AV.int .i32):=Ng _ ns;rw [dP] at g1 g3
     have eP:∀ j,ad.add j=⟨ad.block,ad.off+j,none⟩:=by
      intro j;unfold Addr.add;split
      ·rename_i h0;rw [h0];cases ad;simp_all
      rfl
     have nJ:∀ j,j<ns.length->w.cell? (ad.add j)=some (.int .i32 (ns.getD j 0)):=by intro j hj;obtain ⟨u,hu,mj⟩:=g3.get j (.int .i32 ns[j]) (by simp [hj]);rw [aa] at mj;rw [eP,(g2 j u hu).1,mj.1];simp [List.getD,hj]
     have bx:=run_convert_runes (P:=P) w s t e ad ns.length cap ns (Nat.le_refl _) bd Vu br nJ;rw [List.take_length] at bx;refine fu hc hn hK (u:=.string (runesBytes ns)) ?_ ?_
     ·rw [aa];refine ⟨_,rfl,rfl,?_⟩;have:=runesBytes_size_le ns;unfold Nf aw;have e9:(runesBytes ns).data.toList.length=(runesBytes ns).size:=(by rfl);omega
     simp [execOp,hv,bx]
 case makeFunc fn first bF=>
  cases fn<;>try (simp [bM] at hq;done)
  rename_i f;simp only [bM] at hq;cases hf:first.toList with
  | cons _ _=>simp [hf] at hq
  | nil=>
  simp only [hf] at hq;cases hl:bS r g bF.toList with
  | none=>simp [hl] at hq
  | some l=>
  simp only [hl] at hq;have tZ:first=#[]:=(by simpa using hf);refine fu (u:=.func (.func f) #[] (bF.map a.eval)) hc hn hq ?_ ?_
  ·rw [aa];exact ⟨_,rfl,by rw [Vo];exact hc.bS hg hl⟩
  simp [execOp,Instr.makeFunc,tZ]
 case call cl=>
  unfold bM at hq;simp only at hq;split at hq
  ·rename_i cR;cases cM:cl.argTypes.toList with
   | nil=>simp [cM] at hq
   | cons t ts=>
   cases ts with
   | cons _ _=>simp [cM] at hq
   | nil=>
   simp only [cM] at hq;cases hl:bS r g cl.args.toList with
   | none=>simp [hl] at hq
   | some l=>
   cases l with
   | nil=>simp [hl] at hq
   | cons x l=>
   cases l with
   | cons _ _=>simp [hl] at hq
   | nil=>
   simp only [hl] at hq;have ca:=hc.bS hg hl;simp only [ax] at ca;obtain ⟨u,rr,e,h1,rfl⟩:=ca;obtain ⟨v,s,k1,k2,k3⟩:=Vn (ty:=ty) hq h1;have jM:cl.args.map a.eval=#[u]:=by rw [<- Array.toList_inj];simpa using e
   have Vv:cl.argTypes=#[t]:=by rw [<- Array.toList_inj];simpa using cM
   exact fu hc hn k1 k2 (by simp [execOp,resolve,cR,invoke,builtin,jM,Vv,k3])
  ·rename_i cR;split at hq<;>try contradiction
   rename_i t cM;split at hq<;>try contradiction
   rename_i e br;split at hq<;>try contradiction
   rename_i b off n' c k hl;have ca:=hc.bS hg hl;simp only [ax] at ca;obtain ⟨u,rr,e1,h1,e2⟩:=ca;subst e2;rw [aa] at h1;obtain ⟨p,x1,x2,rfl,x3,x4,x5,x6,x7⟩:=h1;have h1:cl.args.map a.eval=#[.slice (some ⟨p.block,p.off+off,none⟩) n' c]:=by rw [<- Array.toList_inj];simpa using e1
   have h2:cl.argTypes=#[t]:=by rw [<- Array.toList_inj];simpa using cM
   refine fu (u:=goInt c) hc hn hq ?_ ?_
   ·rw [aa];refine ⟨rfl,?_⟩;unfold pb at x7;simp [IntKind.has,IntKind.min,IntKind.max,IntKind.signed,IntKind.bits];omega
   simp [execOp,resolve,cR,invoke,builtin,h1,h2,Builtin.cap_,cJ br]
  ·rename_i cR;cases hl:bS r g cl.args.toList with
   | none=>simp [hl] at hq
   | some l=>
   simp only [hl] at hq;cases l with
   | nil=>simp at hq
   | cons x l=>
   cases x<;>try (simp at hq;done)
   rename_i k m;cases k<;>try (simp at hq;done)
   simp only at hq;cases hf:foldI min m l with
   | none=>simp [hf] at hq
   | some z=>
   simp only [hf] at hq;have ca:=hc.bS hg hl;simp only [ax] at ca;obtain ⟨u,rr,e,h1,h2⟩:=ca;rw [aa] at h1;obtain ⟨rfl,hm⟩:=h1;obtain ⟨q1,q2⟩:=Ny (P:=P) hf h2 hm;have jM:(cl.args.map a.eval).toList=.int .i64 m::rr:=(by simpa using e);refine fu (v:=.int .i64 z) (u:=.int .i64 z) hc hn hq (by rw [aa];exact ⟨rfl,q1⟩) ?_;simp only [execOp,resolve,cR,Sem.run_bind,Sem.run_pure,Result.andThen,invoke,builtin,Builtin.min_,jM,q2]
  ·rename_i cR;cases hl:bS r g cl.args.toList with
   | none=>simp [hl] at hq
   | some l=>
   simp only [hl] at hq;cases l with
   | nil=>simp at hq
   | cons x l=>
   cases x<;>try (simp at hq;done)
   rename_i k m;cases k<;>try (simp at hq;done)
   simp only at hq;cases hf:foldI max m l with
   | none=>simp [hf] at hq
   | some z=>
   simp only [hf] at hq;have ca:=hc.bS hg hl;simp only [ax] at ca;obtain ⟨u,rr,e,h1,h2⟩:=ca;rw [aa] at h1;obtain ⟨rfl,hm⟩:=h1;obtain ⟨q1,q2⟩:=Nz (P:=P) hf h2 hm;have jM:(cl.args.map a.eval).toList=.int .i64 m::rr:=(by simpa using e);refine fu (v:=.int .i64 z) (u:=.int .i64 z) hc hn hq (by rw [aa];exact ⟨rfl,q1⟩) ?_;simp only [execOp,resolve,cR,Sem.run_bind,Sem.run_pure,Result.andThen,invoke,builtin,Builtin.max_,jM,q2]
  ·rename_i f cR;cases hl:bS r g cl.args.toList with
   | none=>simp [hl] at hq
   | some l=>
   simp only [hl] at hq;obtain ⟨v,hv,hk⟩:=hq;have hv:=qy he hv
   have bx:(execOp a.eval ⟨dst,.call cl,ty,pos,gO,gd⟩).run P w=(callFunc f (cl.args.map a.eval++#[])).run P w:=
    Fl rfl ⟨_,cR,rfl⟩
   refine Fj (us:=cl.args.map a.eval) hv hc.cw (by simpa using hc.bS hg hl) (by simpa using bx) (fun v' h' g' u w' hR c1 c2 c3=>?_);obtain ⟨rfl,rfl⟩:=hR;exact hn _ g' u w' hk c1 c2 c3
  ·rename_i t cR;cases hx:aK r g (.tmp t) with
   | none=>simp [hx] at hq
   | some x=>
   cases x<;>try (simp [hx] at hq;done)
   rename_i f bF;simp only [hx] at hq;cases hl:bS r g cl.args.toList with
   | none=>simp [hl] at hq
   | some l=>
   simp only [hl] at hq;obtain ⟨v,hv,hk⟩:=hq;have hv:=qy he hv;have hr:=hc.aK hg hx;rw [aa] at hr;obtain ⟨us,yj,bd⟩:=hr
   have bx:(execOp a.eval ⟨dst,.call cl,ty,pos,gO,gd⟩).run P w=(callFunc f (cl.args.map a.eval++us)).run P w:=
    Fl rfl ⟨_,cR,yj⟩
   refine Fj hv hc.cw (by simpa using ax.append (hc.bS hg hl) bd) bx (fun v' h' g' u w' hR c1 c2 c3=>?_);obtain ⟨rfl,rfl⟩:=hR;exact hn _ g' u w' hk c1 c2 c3
  exact hq.elim
 case lookup t x i ok=>
  simp only [bM] at hq;split at hq<;>try contradiction
  rename_i kt et bg;split at hq<;>try contradiction
  rename_i k hk;split at hq<;>try contradiction
  rename_i z hz;have uZ:=hc.aK hg hk;split at hq<;>try contradiction
  ·rename_i b hx;obtain ⟨es,v,f,hm,sD,hK⟩:=hq;obtain ⟨h1,h2⟩:=qy he sD;have gA:=hc.aK hg hx;rw [aa] at gA;obtain ⟨p,hp,hv⟩:=gA;obtain ⟨p',cl,al,o1,o2,o3,o4,o5⟩:=hc.cw.obj b _ hm;simp only at o1 o3;rw [hp] at o1;cases o1
   obtain ⟨s,r1,r2⟩:=Vl (P:=P) (c:=⟨g0,live X h,w⟩) (ok:=ok) bg h1 uZ hz o3 o4 h2;exact fu hc hn hK r2 (by simp only [execOp,hv,Sem.run_bind,r1,Result.andThen_ok,Sem.run_pure])
  rename_i hx;obtain ⟨sD,hK⟩:=hq;have h1:=qy he sD;have gA:=hc.aK hg hx;rw [aa] at gA;obtain ⟨s,r1,r2⟩:=Vm (P:=P) (c:=⟨g0,live X h,w⟩) (ok:=ok) bg h1 uZ hz;exact fu hc hn hK r2 (by simp only [execOp,gA,Sem.run_bind,r1,Result.andThen_ok,Sem.run_pure])
 all_goals (simp [bM] at hq)
end Go.Abs
