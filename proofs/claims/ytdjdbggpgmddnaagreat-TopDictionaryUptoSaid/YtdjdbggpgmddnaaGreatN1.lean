/- Small laws for the walks and contracts of functions; each theorem names its conditions. -/
import Derived.Calls
import Derived.Orders
import Derived.Laws.Sem
import GoSem.Claims
import GoSem.ClaimData
import Derived.Laws.Cover4
/-
 The abstract layer,part A: abstract values,own objects,and what it is that a value in memory stands for an abstract one.
-/
namespace Go.Abs
open Go
inductive AV where
 | unit
 | junk
 | bool (b:Bool)
 | int (k:IntKind) (n:Int)
 | str (s:List UInt8)
 | nilS
 | sl (k:Nat) (t:Option Nat) (xs:List (List AV))
 | slz (k:Nat)
 | nilO
 | osl (b:Nat) (off len k:Nat)
 | oslc (b:Nat) (off len cap k:Nat)
 | iptr (cs:List AV)
 | optr (b:Nat) (off:Nat)
 | nilP
 | omap (b:Nat)
 | nilM
 | fn (f:FuncId) (caps:List AV)
 | nilF
 | agg (cs:List AV)
 | tup (vs:List AV)
 | oit (b:Nat)
 | val (x:Value)
inductive Ob where
 | vec (cs:List AV)
 | tok
 | map (es:List (AV × AV))
 | rmap (es:List (AV × AV)) (bs:List Nat) (cl:Nat)
 | iter (m cl:Nat) (seen:List Nat)
 | siter (s:List UInt8) (pos:Nat)
 | raw (b:Nat) (o:Obj) (S:AV->Value->Prop)
abbrev Heap:=List (Nat × Ob)
def keys (h:Heap):List Nat:=h.map (·.1)
def cellsV:AV->Option (List AV)
 | .agg cs=>some cs
 | .tup _=>none
 | .unit=>none
 | v=>some [v]
def LMAX:Nat:=140737488355328
def CAPM:Nat:=9223372036854775807
structure Gh where
 pl:Nat->Option Addr
 ow:Nat->Option (Nat × Nat)
structure Cx where
 g:Gh
 live:Nat->Prop
 w:World
def Cx.fr (c:Cx) (b o:Nat):Prop:=∀ k s,c.g.ow b=some (k,s)->c.live k->o<s
def World.blockHas (w:World) (b n:Nat):Prop:=∃ cs t f,w.heap[b]?=some (.cells cs t f)/\n<=cs.size
mutual
def Rep (c:Cx):AV->Value->Prop
 | .unit,_=>True
 | .junk,v=>v.oneCell'=true
 | .bool b,v=>v=.bool b
 | .int k n,v=>v=.int k n/\k.has n
 | .str s,v=>∃ b:ByteArray,v=.string b/\b.data.toList=s/\s.length<=LMAX
 | .nilS,v=>v=.slice none 0 0
 | .sl k t xs,v=>∃ base cap,v=.slice base xs.length cap/\xs.length<=cap/\xs.length<=LMAX/\0<k /\
    (base=none->cap=0) /\
    (∀ a,base=some a->xs≠[]->a.spot=none) /\
    (∀ a,base=some a->RepEs c k xs a.block a.off) /\
    (∀ q,t=some q->cap=xs.length\/∃ a,base=some a/\a.spot=none/\c.g.pl q=some ⟨a.block,a.off+xs.length*k,none⟩/\World.blockHas c.w a.block (a.off+cap*k))
 | .slz k,v=>∃ a cap,v=.slice (some a) 0 cap/\0<k
 | .nilO,v=>v=.slice none 0 0
 | .osl b off len k,v=>∃ p cap o',c.g.pl b=some p/\p.spot=none/\v=.slice (some ⟨p.block,p.off+o',none⟩) len cap/\len<=cap/\len<=LMAX/\0<k/\World.blockHas c.w p.block (p.off+o'+cap*k)/\(0<cap->o'=off)/\cap<=CAPM
 | .oslc b off len cap k,v=>∃ p,c.g.pl b=some p/\p.spot=none/\v=.slice (some ⟨p.block,p.off+off,none⟩) len cap/\len<=cap/\len<=LMAX/\0<k/\World.blockHas c.w p.block (p.off+off+cap*k)/\cap<=CAPM
 | .iptr cs,v=>∃ b o,v=.pointer (some ⟨b,o,none⟩)/\RepCs c cs b o
 | .optr b off,v=>∃ p,c.g.pl b=some p/\p.spot=none/\v=.pointer (some ⟨p.block,p.off+off,none⟩)
 | .nilP,v=>v=.pointer none
 | .omap b,v=>∃ p,c.g.pl b=some p/\v=.map (some p.block)
 | .nilM,v=>v=.map none
 | .fn f caps,v=>∃ us,v=.func (.func f) #[] us/\RepVs c caps us.toList
 | .nilF,v=>v=.nilFunc
 | .agg cs,v=>∃ us,v=.agg us/\(∀ u∈us,u.oneCell'=true)/\RepVs c cs us.toList
 | .tup vs,v=>∃ us,v=.tuple us/\RepVs c vs us.toList
 | .oit b,v=>∃ p,c.g.pl b=some p/\v=.pointer (some ⟨p.block,0,none⟩)
 | .val x,v=>v=x/\x.oneCell'=true
def RepVs (c:Cx):List AV->List Value->Prop
 | [],us=>us=[]
 | x::xs,us=>∃ u r,us=u::r/\Rep c x u/\RepVs c xs r
def RepCs (c:Cx):List AV->Nat->Nat->Prop
 | [],_,_=>True
 | x::xs,b,o=>(∃ u,c.w.cell? ⟨b,o,none⟩=some u/\u.oneCell'=true/\c.fr b o/\Rep c x u)/\RepCs c xs b (o+1)
def RepEs (c:Cx) (k:Nat):List (List AV)->Nat->Nat->Prop
 | [],_,_=>True
 | x::xs,b,o=>(x.length=k/\RepCs c x b o)/\RepEs c k xs b (o+k)
end
structure Cx.Le (c c':Cx):Prop where
 pl:∀ k p,c.g.pl k=some p->c'.g.pl k=some p
 cell:∀ b o u,c.w.cell? ⟨b,o,none⟩=some u->c.fr b o->c'.w.cell? ⟨b,o,none⟩=some u/\c'.fr b o
 has:∀ b n,World.blockHas c.w b n->World.blockHas c'.w b n
theorem Cx.Le.refl (c:Cx):Cx.Le c c:=⟨fun _ _ h=>h,fun _ _ _ h h'=>⟨h,h'⟩,fun _ _ h=>h⟩
theorem Cx.Le.trans {a b c:Cx} (h:Cx.Le a b) (k:Cx.Le b c):Cx.Le a c:=
 ⟨fun x p e=>k.pl x p (h.pl x p e),fun x o u e f=>let ⟨e',f'⟩:=h.cell x o u e f;k.cell x o u e' f',fun x n e=>k.has x n (h.has x n e)⟩
mutual
theorem Rep.mono {c c':Cx} (hc:Cx.Le c c'):∀ (x:AV) (v:Value),Rep c x v->Rep c' x v
 | .unit,_,_=>by simp [Rep]
 | .junk,v,h=>by simpa [Rep] using h
 | .bool b,v,h=>by simpa [Rep] using h
 | .int k n,v,h=>by simpa [Rep] using h
 | .str s,v,h=>by simpa [Rep] using h
 | .nilS,v,h=>by simpa [Rep] using h
 | .nilP,v,h=>by simpa [Rep] using h
 | .slz k,v,h=>by simpa [Rep] using h
 | .nilO,v,h=>by simpa [Rep] using h
 | .nilM,v,h=>by simpa [Rep] using h
 | .nilF,v,h=>by simpa [Rep] using h
 | .val x,v,h=>by simpa [Rep] using h
 | .sl k t xs,v,h=>by
   simp only [Rep] at h ⊢;obtain ⟨base,cap,hv,h1,h2,h3,h4,h5,h6,h7⟩:=h;refine ⟨base,cap,hv,h1,h2,h3,h4,h5,fun a ha=>RepEs.mono hc k xs _ _ (h6 a ha),fun q hq=>?_⟩;rcases h7 q hq with h7|⟨a,ha,hs,hp,hh⟩
   ·exact .inl h7
   exact .inr ⟨a,ha,hs,hc.pl _ _ hp,hc.has _ _ hh⟩
 | .osl b off len k,v,h=>by simp only [Rep] at h ⊢;obtain ⟨p,cap,o',hp,hs,hv,h1,h2,h3,h4,h5⟩:=h;exact ⟨p,cap,o',hc.pl _ _ hp,hs,hv,h1,h2,h3,hc.has _ _ h4,h5⟩
 | .oslc b off len cap k,v,h=>by simp only [Rep] at h ⊢;obtain ⟨p,hp,hs,hv,h1,h2,h3,h4,h5⟩:=h;exact ⟨p,hc.pl _ _ hp,hs,hv,h1,h2,h3,hc.has _ _ h4,h5⟩
 | .iptr cs,v,h=>by simp only [Rep] at h ⊢;obtain ⟨b,o,hv,hr⟩:=h;exact ⟨b,o,hv,RepCs.mono hc cs _ _ hr⟩
 | .optr b off,v,h=>by simp only [Rep] at h ⊢;obtain ⟨p,hp,r⟩:=h;exact ⟨p,hc.pl _ _ hp,r⟩
 | .omap b,v,h=>by simp only [Rep] at h ⊢;obtain ⟨p,hp,r⟩:=h;exact ⟨p,hc.pl _ _ hp,r⟩
 | .oit b,v,h=>by simp only [Rep] at h ⊢;obtain ⟨p,hp,r⟩:=h;exact ⟨p,hc.pl _ _ hp,r⟩
 | .fn f caps,v,h=>by simp only [Rep] at h ⊢;obtain ⟨us,hv,hr⟩:=h;exact ⟨us,hv,RepVs.mono hc caps _ hr⟩
 | .agg cs,v,h=>by simp only [Rep] at h ⊢;obtain ⟨us,hv,h1,hr⟩:=h;exact ⟨us,hv,h1,RepVs.mono hc cs _ hr⟩
 | .tup cs,v,h=>by simp only [Rep] at h ⊢;obtain ⟨us,hv,hr⟩:=h;exact ⟨us,hv,RepVs.mono hc cs _ hr⟩
theorem RepVs.mono {c c':Cx} (hc:Cx.Le c c'):∀ (xs:List AV) (us:List Value),RepVs c xs us->RepVs c' xs us
 | [],us,h=>by simpa [RepVs] using h
 | x::xs,us,h=>by simp only [RepVs] at h ⊢;obtain ⟨u,r,hu,h1,h2⟩:=h;exact ⟨u,r,hu,Rep.mono hc x u h1,RepVs.mono hc xs r h2⟩
theorem RepCs.mono {c c':Cx} (hc:Cx.Le c c'):∀ (xs:List AV) (b o:Nat),RepCs c xs b o->RepCs c' xs b o
 | [],b,o,h=>by simp [RepCs]
 | x::xs,b,o,h=>by simp only [RepCs] at h ⊢;obtain ⟨⟨u,h1,h2,h3,h4⟩,h5⟩:=h;obtain ⟨e,f⟩:=hc.cell _ _ _ h1 h3;exact ⟨⟨u,e,h2,f,Rep.mono hc x u h4⟩,RepCs.mono hc xs _ _ h5⟩
theorem RepEs.mono {c c':Cx} (hc:Cx.Le c c') (k:Nat):∀ (xs:List (List AV)) (b o:Nat),RepEs c k xs b o->RepEs c' k xs b o
 | [],b,o,h=>by simp [RepEs]
 | x::xs,b,o,h=>by simp only [RepEs] at h ⊢;exact ⟨⟨h.1.1,RepCs.mono hc x _ _ h.1.2⟩,RepEs.mono hc k xs _ _ h.2⟩
end
theorem Rep.oslE {c:Cx} {b off len k:Nat} {v:Value} (h:Rep c (.osl b off len k) v) (hl:0<len):∃ p cap,c.g.pl b=some p/\p.spot=none/\v=.slice (some ⟨p.block,p.off+off,none⟩) len cap/\len<=cap/\len<=LMAX/\0<k /\
  World.blockHas c.w p.block (p.off+off+cap*k)/\cap<=CAPM:=by
 simp only [Rep] at h;obtain ⟨p,cap,o',h1,h2,h3,h4,h5,h6,h7,h8,h9⟩:=h;have:=h8 (by omega);subst this;exact ⟨p,cap,h1,h2,h3,h4,h5,h6,h7,h9⟩
end Go.Abs
/-
 The abstract layer,part B: own objects,the abstract state,and the evaluator: a predicate transformer over a function's code,made to be reduced.
-/
set_option linter.unusedVariables false
namespace Go.Abs
open Go
def EntsRep (c:Cx):List (AV × AV)->List MapEntry->Prop
 | [],es=>es=[]
 | x::xs,es=>∃ e r,es=e::r/\Rep c x.1 e.key/\Rep c x.2 e.val/\EntsRep c xs r
def ObjRep (c:Cx) (k:Nat):Ob->Prop
 | .vec cs=>∃ p cc t,c.g.pl k=some p/\p.spot=none/\c.g.ow p.block=some (k,0)/\c.w.heap[p.block]?=some (.cells cc t (0,0)) /\
    p.off+cs.length<=cc.size/\∀ i x,cs[i]?=some x->∃ u,cc[p.off+i]?=some u/\u.oneCell'=true/\Rep c x u
 | .tok=>∀ p,c.g.pl k=some p->p.spot=none/\c.g.ow p.block=some (k,p.off)/\∃ cc t,c.w.heap[p.block]?=some (.cells cc t (0,0))
 | .map es=>∃ p cl ents,c.g.pl k=some p/\c.g.ow p.block=some (k,0)/\c.w.heap[p.block]?=some (.map ents cl)/\EntsRep c es ents.toList /\
    (∀ x∈ents.toList,x.born<cl)/\(ents.toList.map (·.born)).Nodup
 | .rmap es bs cl=>∃ p ents,c.g.pl k=some p/\c.g.ow p.block=some (k,0)/\c.w.heap[p.block]?=some (.map ents cl)/\EntsRep c es ents.toList /\
    (∀ x∈ents.toList,x.born<cl)/\(ents.toList.map (·.born)).Nodup/\ents.toList.map (·.born)=bs
 | .iter m cl seen=>∃ p pm sa,c.g.pl k=some p/\c.g.ow p.block=some (k,0)/\c.w.heap[p.block]?=some (.mapIter (some pm.block) cl sa cl)/\c.g.pl m=some pm/\sa.toList=seen
 | .siter s pos=>∃ p b,c.g.pl k=some p/\c.g.ow p.block=some (k,0)/\c.w.heap[p.block]?=some (.stringIter b pos)/\b.data.toList=s/\s.length<=LMAX
 | .raw b o S=>c.g.pl k=some ⟨b,0,none⟩/\c.g.ow b=some (k,0)/\c.w.heap[b]?=some o/\(∀ cc t f,o≠.cells cc t f)/\∀ v u,S v u->Rep c v u
def live (X:Nat->Prop) (h:Heap):Nat->Prop:=fun k=>X k\/k∈keys h
structure CW (X:Nat->Prop) (g:Gh) (h:Heap) (w:World):Prop where
 own:∀ b k s,g.ow b=some (k,s)->b<w.heap.size
 bound:∃ N,∀ k,(X k\/k∈keys h\/g.pl k≠none\/∃ b s,g.ow b=some (k,s))->k<N
 nodup:(keys h).Nodup
 sep:∀ k,k∈keys h->¬ X k
 obj:∀ k o,(k,o)∈h->ObjRep ⟨g,live X h,w⟩ k o
structure Step (X:Nat->Prop) (g:Gh) (h:Heap) (w:World) (g':Gh) (h':Heap) (w':World):Prop where
 os:w'.os=w.os
 say:w'.tape=w.tape/\w.drawn<=w'.drawn
 output:w'.output=w.output
 size:w.heap.size<=w'.heap.size
 pl:∀ k p,g.pl k=some p->g'.pl k=some p
 xow:∀ b k s,g.ow b=some (k,s)->X k->g'.ow b=some (k,s)
 xow':∀ b k s,g'.ow b=some (k,s)->X k->g.ow b=some (k,s)
 xpl:∀ k,X k->g.pl k=none->g'.pl k=none
 old:∀ b,b<w.heap.size->(∀ k s,g.ow b=some (k,s)->k ∉ keys h)->w'.heap[b]?=w.heap[b]?/\∀ k s,g'.ow b=some (k,s)->k ∉ keys h'
 mine:∀ b k s,g.ow b=some (k,s)->k∈keys h->∀ cc t f,w.heap[b]?=some (.cells cc t f) ->
  ∃ cc',w'.heap[b]?=some (.cells cc' t f)/\cc'.size=cc.size/\∀ o,o<s->cc'[o]?=cc[o]?
 minefree:∀ b k s,g.ow b=some (k,s)->k∈keys h->∀ k' s',g'.ow b=some (k',s')->live X h' k'->s<=s'
theorem Step.refl (X:Nat->Prop) (g:Gh) (h:Heap) (w:World):Step X g h w g h w:=
 ⟨rfl,⟨rfl,Nat.le_refl _⟩,rfl,Nat.le_refl _,fun _ _ e=>e,fun _ _ _ e _=>e,fun _ _ _ e _=>e,fun _ _ e=>e,fun _ _ e=>⟨rfl,e⟩,
   fun _ _ _ _ _ cc _ _ e=>⟨cc,e,rfl,fun _ _=>rfl⟩,fun _ _ _ e _ _ _ e' _=>by rw [e] at e';cases e';exact Nat.le_refl _⟩
theorem Step.trans {X:Nat->Prop} {g g1 g2:Gh} {h h1 h2:Heap} {w w1 w2:World} (own:∀ b k s,g.ow b=some (k,s)->b<w.heap.size)
  (s1:Step X g h w g1 h1 w1) (s2:Step X g1 h1 w1 g2 h2 w2):Step X g h w g2 h2 w2:=by
 refine ⟨s2.os.trans s1.os,⟨s2.say.1.trans s1.say.1,Nat.le_trans s1.say.2 s2.say.2⟩,s2.output.trans s1.output,Nat.le_trans s1.size s2.size,fun k p e=>s2.pl k p (s1.pl k p e),
  fun b k s e x=>s2.xow b k s (s1.xow b k s e x) x,fun b k s e x=>s1.xow' b k s (s2.xow' b k s e x) x,fun k x e=>s2.xpl k x (s1.xpl k x e),?_,?_,?_⟩
 ·intro b hb hn;obtain ⟨e1,n1⟩:=s1.old b hb hn;obtain ⟨e2,n2⟩:=s2.old b (Nat.lt_of_lt_of_le hb s1.size) n1;exact ⟨e2.trans e1,n2⟩
 ·intro b k s ho hk cc t f hcc;obtain ⟨cc1,e1,z1,p1⟩:=s1.mine b k s ho hk cc t f hcc;have hb:b<w1.heap.size:=Nat.lt_of_lt_of_le (own b k s ho) s1.size;by_cases hm:∃ k1 s1',g1.ow b=some (k1,s1')/\k1∈keys h1
  ·obtain ⟨k1,s1',ho1,hk1⟩:=hm;obtain ⟨cc2,e2,z2,p2⟩:=s2.mine b k1 s1' ho1 hk1 cc1 t f e1;have hle:=s1.minefree b k s ho hk k1 s1' ho1 (.inr hk1);exact ⟨cc2,e2,z2.trans z1,fun o h=>(p2 o (by omega)).trans (p1 o h)⟩
  obtain ⟨e2,_⟩:=s2.old b hb (fun k1 s1' e hk=>hm ⟨k1,s1',e,hk⟩);exact ⟨cc1,e2.trans e1,z1,p1⟩
 intro b k s ho hk k2 s2' ho2 hl2;have hb:b<w1.heap.size:=Nat.lt_of_lt_of_le (own b k s ho) s1.size;by_cases hm:∃ k1 s1',g1.ow b=some (k1,s1')/\k1∈keys h1
 ·obtain ⟨k1,s1',ho1,hk1⟩:=hm;have h1:=s1.minefree b k s ho hk k1 s1' ho1 (.inr hk1);have h2:=s2.minefree b k1 s1' ho1 hk1 k2 s2' ho2 hl2;omega
 obtain ⟨_,n2⟩:=s2.old b hb (fun k1 s1' e hk=>hm ⟨k1,s1',e,hk⟩);rcases hl2 with hx|hk2
 ·exact s1.minefree b k s ho hk k2 s2' (s2.xow' b k2 s2' ho2 hx) (.inl hx)
 exact absurd hk2 (n2 k2 s2' ho2)
theorem Step.le {X:Nat->Prop} {g g':Gh} {h h':Heap} {w w':World} (s:Step X g h w g' h' w') :
  Cx.Le ⟨g,live X h,w⟩ ⟨g',live X h',w'⟩:=by
 refine ⟨s.pl,?_,?_⟩
 ·intro b o u hu hf;simp only [World.cell?] at hu
  have hb:b<w.heap.size:=by
   cases hh:w.heap[b]? with
   | none=>simp [hh] at hu
   | some x=>exact (Array.getElem?_eq_some_iff.1 hh).1
  by_cases hm:∃ k s',g.ow b=some (k,s')/\k∈keys h
  ·obtain ⟨k,s',ho,hk⟩:=hm;have hlt:o<s':=hf k s' ho (.inr hk);cases hh:w.heap[b]? with
   | none=>simp [hh] at hu
   | some x=>
     cases x with
     | cells cc t f=>
       obtain ⟨cc',e,z,p⟩:=s.mine b k s' ho hk cc t f hh;refine ⟨?_,fun k' s'' ho' hl'=>Nat.lt_of_lt_of_le hlt (s.minefree b k s' ho hk k' s'' ho' hl')⟩;simp only [World.cell?,e];simp only [hh] at hu;simpa [p o hlt] using hu
     | _=>simp [hh] at hu
  obtain ⟨e,n⟩:=s.old b hb (fun k s' ho hk=>hm ⟨k,s',ho,hk⟩);refine ⟨by simp only [World.cell?,e];exact hu,fun k' s'' ho' hl'=>?_⟩;rcases hl' with hx|hk'
  ·exact hf k' s'' (s.xow' b k' s'' ho' hx) (.inl hx)
  exact absurd hk' (n k' s'' ho')
 rintro b n ⟨cc,t,f,hcc,hn⟩;have hb:b<w.heap.size:=(Array.getElem?_eq_some_iff.1 hcc).1;by_cases hm:∃ k s',g.ow b=some (k,s')/\k∈keys h
 ·obtain ⟨k,s',ho,hk⟩:=hm;obtain ⟨cc',e,z,_⟩:=s.mine b k s' ho hk cc t f hcc;exact ⟨cc',t,f,e,by omega⟩
 obtain ⟨e,_⟩:=s.old b hb (fun k s' ho hk=>hm ⟨k,s',ho,hk⟩);exact ⟨cc,t,f,e.trans hcc,hn⟩
abbrev G:=List (Nat × Bool × Bool)
abbrev Regs:=List (Nat × G × AV)
def lookR:Regs->Nat->Option (G × AV)
 | [],_=>none
 | (t,x)::r,n=>match Nat.beq t n with
   | true=>some x
   | false=>lookR r n
def eqB:Bool->Bool->Bool
 | true,true=>true
 | false,false=>true
 | _,_=>false
def memG:G->Nat->Bool->Bool
 | [],_,_=>false
 | (t,_,w)::r,n,w'=>match Nat.beq t n with
   | true=>(match eqB w w' with
     | true=>true
     | false=>memG r n w')
   | false=>memG r n w'
def subG:G->G->Bool
 | [],_=>true
 | (t,_,w)::r,g=>match memG g t w with
   | true=>subG r g
   | false=>false
def gP:G->Prop->Prop
 | [],p=>p
 | (_,b,w)::r,p=>b=w->gP r p
def okI (k:IntKind) (n:Int):Bool:=
 match k,n with
 | .i64,n=>Nat.ble n.natAbs 4611686018427387904
 | .i32,n=>Nat.ble n.natAbs 1073741824
 | .u8,.ofNat n=>Nat.ble n 255
 | .u32,.ofNat n=>Nat.ble n 4294967295
 | .u64,.ofNat n=>Nat.ble n 9223372036854775807
 | _,_=>false
def ofVal:Value->Option AV
 | .bool b=>some (.bool b)
 | .int k n=>(match okI k n with|true=>some (.int k n)|false=>none)
 | .string s=>(match Nat.ble s.data.toList.length 65536 with|true=>some (.str s.data.toList)|false=>none)
 | .pointer none=>some .nilP
 | .slice none 0 0=>some .nilS
 | .map none=>some .nilM
 | .nilFunc=>some .nilF
 | .nilIface=>some (.val .nilIface)
 | _=>none
def ofVals:List Value->Option (List AV)
 | []=>some []
 | v::r=>match ofVal v with
   | some a=>(match ofVals r with
     | some b=>some (a::b)
     | none=>none)
   | none=>none
def zeroCs (P:Program) (t:TypeId):Option (List AV):=
 match P.info? t with
 | some i=>match i.zero with
   | some v=>ofVals v.cells.toList
   | none=>none
 | none=>none
def aggT (P:Program) (t:TypeId):Option Bool:=
 match P.underlying t with
 | some (.struct _)=>some true
 | some (.array _ _)=>some true
 | some _=>some false
 | none=>none
def opnd (r:Regs) (g:G):Operand->Option AV
 | .tmp t=>match lookR r t with
   | some (g',v)=>match subG g' g with
     | true=>some v
     | false=>none
   | none=>none
 | .const v=>ofVal v
 | .func f=>some (.fn f [])
 | .global _=>none
def opnds (r:Regs) (g:G):List Operand->Option (List AV)
 | []=>some []
 | x::xs=>match opnd r g x with
   | some v=>(match opnds r g xs with
     | some vs=>some (v::vs)
     | none=>none)
   | none=>none
def takeN:Nat->List AV->Option (List AV)
 | 0,_=>some []
 | _+1,[]=>none
 | n+1,c::cs=>match takeN n cs with
   | some l=>some (c::l)
   | none=>none
def dropN:Nat->List AV->Option (List AV)
 | 0,cs=>some cs
 | _+1,[]=>none
 | n+1,_::cs=>dropN n cs
def arith (g:G) (k:IntKind) (n:Int) (K:AV->Prop):Prop:=
 match k with
 | .i64=>gP g (-9223372036854775808<=n/\n<=9223372036854775807)/\K (.int .i64 n)
 | .i32=>gP g (-2147483648<=n/\n<=2147483647)/\K (.int .i32 n)
 | k=>K (.int k (k.wrap n))
def sameK:IntKind->IntKind->Bool
 | .i8,.i8=>true
 | .i16,.i16=>true
 | .i32,.i32=>true
 | .i64,.i64=>true
 | .u8,.u8=>true
 | .u16,.u16=>true
 | .u32,.u32=>true
 | .u64,.u64=>true
 | _,_=>false
def eqS (P:Program) (t:TypeId) (x y:AV):Option Bool:=
 match P.underlying t,x,y with
 | some (.int _),.int k a,.int k' b=>(match sameK k k' with|true=>some (decide (a=b))|false=>none)
 | some .string,.str a,.str b=>some (decide (a=b))
 | some .bool,.bool a,.bool b=>some (decide (a=b))
 | _,_,_=>none
def eqF (P:Program):Nat->List Field->List AV->List AV->Option Bool
 | _,[],[],[]=>some true
 | i,f::fs,x::xs,y::ys=>match Nat.beq f.offset i with
   | true=>(match eqS P f.type x y with
     | some b=>(match eqF P (i+1) fs xs ys with
       | some c=>some (b&&c)
       | none=>none)
     | none=>none)
   | false=>none
 | _,_,_,_=>none
def eqA (P:Program) (e:TypeId):List AV->List AV->Option Bool
 | [],[]=>some true
 | x::xs,y::ys=>match eqS P e x y with
   | some b=>(match eqA P e xs ys with
     | some c=>some (b&&c)
     | none=>none)
   | none=>none
 | _,_=>none
def eqV (P:Program) (t:TypeId) (x y:AV):Option Bool:=
 match P.underlying t with
 | some (.struct fs)=>(match x,y with
   | .agg xs,.agg ys=>eqF P 0 fs.toList xs ys
   | _,_=>none)
 | some (.array n e)=>(match x,y with
   | .agg xs,.agg ys=>(match Nat.beq xs.length n,Nat.beq (P.cellsOf e) 1,P.info? e with
     | true,true,some _=>eqA P e xs ys
     | _,_,_=>none)
   | _,_=>none)
 | some _=>eqS P t x y
 | none=>none
def plainT (P:Program) (t:TypeId):Bool:=
 match P.underlying t with
 | some (.struct fs)=>fs.toList.all (fun f=>!(f.name == "_"))&&!P.stoodInHeld t&&!P.eqGuardType P.depth t
 | some (.array _ _)=>!P.eqGuardType P.depth t
 | some _=>true
 | none=>false
def eqK (k k':IntKind) (p:Prop):Prop:=
 match k,k' with
 | .i8,.i8=>p
 | .i16,.i16=>p
 | .i32,.i32=>p
 | .i64,.i64=>p
 | .u8,.u8=>p
 | .u16,.u16=>p
 | .u32,.u32=>p
 | .u64,.u64=>p
 | _,_=>False
theorem eqK_iff {k k':IntKind} {p:Prop}:eqK k k' p↔(k=k'/\p):=by cases k<;>cases k'<;>simp [eqK]
def binP (P:Program) (g:G) (t:TypeId) (op:BinOp) (x y:AV) (K:AV->Prop):Prop:=
 match op,x,y with
 | .add,.int k a,.int k' b=>eqK k k' (arith g k (a+b) K)
 | .sub,.int k a,.int k' b=>eqK k k' (arith g k (a - b) K)
 | .mul,.int k a,.int k' b=>eqK k k' (arith g k (a*b) K)
 | .quo,.int k a,.int k' b=>eqK k k' (gP g (b≠0)/\arith g k (Int.tdiv a b) K)
 | .rem,.int k a,.int k' b=>eqK k k' (gP g (b≠0/\k.has (Int.tmod a b))/\K (.int k (Int.tmod a b)))
 | .lss,.int k a,.int k' b=>eqK k k' (K (.bool (decide (a<b))))
 | .leq,.int k a,.int k' b=>eqK k k' (K (.bool (decide (a<=b))))
 | .gtr,.int k a,.int k' b=>eqK k k' (K (.bool (decide (b<a))))
 | .geq,.int k a,.int k' b=>eqK k k' (K (.bool (decide (b<=a))))
 | .eql,.int k a,.int k' b=>eqK k k' (K (.bool (decide (a=b))))
 | .neq,.int k a,.int k' b=>eqK k k' (K (.bool (!decide (a=b))))
 | .eql,.bool a,.bool b=>(match P.underlying t with|some .bool=>K (.bool (decide (a=b)))|_=>False)
 | .neq,.bool a,.bool b=>(match P.underlying t with|some .bool=>K (.bool (!decide (a=b)))|_=>False)
 | .eql,.str a,.str b=>K (.bool (decide (a=b)))
 | .neq,.str a,.str b=>K (.bool (!decide (a=b)))
 | .lss,.str a,.str b=>K (.bool (Op.bytesLess a b))
 | .add,.str a,.str b=>gP g ((a++b).length<=LMAX)/\K (.str (a++b))
 | .eql,.agg xs,.agg ys=>(match eqV P t (.agg xs) (.agg ys) with|some b=>plainT P t=true/\K (.bool b)|none=>False)
 | .neq,.agg xs,.agg ys=>(match eqV P t (.agg xs) (.agg ys) with|some b=>plainT P t=true/\K (.bool (!b))|none=>False)
 | .eql,.nilS,.nilS=>(match P.underlying t with|some (.slice _)=>K (.bool true)|_=>False)
 | .neq,.nilS,.nilS=>(match P.underlying t with|some (.slice _)=>K (.bool false)|_=>False)
 | .eql,.slz _,.nilS=>(match P.underlying t with|some (.slice _)=>K (.bool false)|_=>False)
 | .neq,.slz _,.nilS=>(match P.underlying t with|some (.slice _)=>K (.bool true)|_=>False)
 | .eql,.sl _ _ xs,.nilS=>(match P.underlying t with|some (.slice _)=>gP g (xs≠[])/\K (.bool false)|_=>False)
 | .neq,.sl _ _ xs,.nilS=>(match P.underlying t with|some (.slice _)=>gP g (xs≠[])/\K (.bool true)|_=>False)
 | .gtr,.str a,.str b=>K (.bool (!Op.bytesLess a b&&!decide (a=b)))
 | .eql,.osl _ _ _ _,.nilS=>(match P.underlying t with|some (.slice _)=>K (.bool false)|_=>False)
 | .eql,.iptr _,.nilP=>(match P.underlying t with|some (.pointer _)=>K (.bool false)|_=>False)
 | .neq,.iptr _,.nilP=>(match P.underlying t with|some (.pointer _)=>K (.bool true)|_=>False)
 | .eql,.nilP,.nilP=>(match P.underlying t with|some (.pointer _)=>K (.bool true)|_=>False)
 | .neq,.nilP,.nilP=>(match P.underlying t with|some (.pointer _)=>K (.bool false)|_=>False)
 | .shr,.int k a,.int k' (.ofNat 1)=>gP g ((k=.u64/\k'=.u64)/\0<=a/\a<9223372036854775808)/\K (.int .u64 (a / 2))
 | .shr,.int k a,.int k' b=>gP g ((k=.u64/\k'=.u64)/\(0<=a/\a<4294967296)/\b=32)/\K (.int .u64 0)
 | .and,.int k a,.int k' b=>gP g ((k=.u64/\k'=.u64)/\(0<=a/\a<4294967296)/\b=4294967295)/\K (.int .u64 a)
 | _,_,_=>False
def mget (P:Program) (t:TypeId) (k:AV):List (AV × AV)->Option (Option AV)
 | []=>some none
 | (x,v)::es=>match eqV P t k x with
   | some true=>some (some v)
   | some false=>mget P t k es
   | none=>none
def mset (P:Program) (t:TypeId) (k v:AV):List (AV × AV)->List (AV × AV)
 | []=>[(k,v)]
 | (x,u)::es=>match eqV P t k x with
   | some true=>(k,v)::es
   | _=>(x,u)::mset P t k v es
def keyFits (P:Program) (t:TypeId) (k:AV):Prop:=plainT P t=true/\eqV P t k k=some true
def zeroV (P:Program) (t:TypeId):Option AV:=
 match P.info? t with
 | some i=>(match i.zero with
   | some (.agg us)=>(match ofVals us.toList with
     | some l=>some (.agg l)
     | none=>none)
   | some v=>ofVal v
   | none=>none)
 | none=>none
def mlook (P:Program) (t:TypeId) (k:AV) (es:List (AV × AV)) (z:AV):Option (AV × Bool):=
 match mget P t k es with
 | some (some v)=>some (v,true)
 | some none=>some (z,false)
 | none=>none
def okTup (ok:Bool) (v:AV) (f:Bool):AV:=
 match ok with
 | true=>.tup [v,.bool f]
 | false=>v
structure Cfg where
 keep:List Nat
 own:List Nat
 frz:List Nat
 spl:List Nat
 ords:List (Nat × List Nat × List Nat):=[]
 lc:List Nat:=[]
def memN:List Nat->Nat->Bool
 | [],_=>false
 | x::r,n=>match Nat.beq x n with
   | true=>true
   | false=>memN r n
inductive Upd (b:Nat) (o:Ob) (b':Nat) (o':Ob):Heap->Heap->Prop
 | here (h:Heap):Upd b o b' o' ((b,o)::h) ((b',o')::h)
 | there {x:Nat × Ob} {h h':Heap}:Upd b o b' o' h h'->Upd b o b' o' (x::h) (x::h')
inductive Rem (b:Nat) (o:Ob):Heap->Heap->Prop
 | here (h:Heap):Rem b o ((b,o)::h) h
 | there {x:Nat × Ob} {h h':Heap}:Rem b o h h'->Rem b o (x::h) (x::h')
def Callable (P:Program) (f:FuncId):Prop:=∃ fn c,P.funcs[f]?=some fn/\fn.body=some c/\(fn.name == "runtime.NumGoroutine")=false
def CallsE (P:Program) (f:FuncId) (us:Array Value) (w:World) (R:Ending->World->Prop):Prop:=
 (Callable P f/\Calls P f us w R)\/∃ v w',(callFunc f us).run P w=.ok (.value v) w'/\R (.returned v) w'
theorem CallsE.mono {P:Program} {f:FuncId} {us:Array Value} {w:World} {R R':Ending->World->Prop} (hc:CallsE P f us w R) (h:∀ e w',R e w'->R' e w'):CallsE P f us w R':=by
 rcases hc with ⟨h1,h2⟩|⟨v,w',h1,h2⟩
 ·exact .inl ⟨h1,h2.mono h⟩
 exact .inr ⟨v,w',h1,h _ _ h2⟩
structure ACalls (P:Program) (f:FuncId) (args:List AV) (h:Heap) (R:AV->Heap->Prop):Prop where
 calls:∀ (X:Nat->Prop) (g:Gh) (w:World) (us:Array Value),CW X g h w->RepVs ⟨g,live X h,w⟩ args us.toList ->
  CallsE P f us w fun e w'=>∃ v u g' h',e=.returned u/\R v h'/\CW X g' h' w'/\Rep ⟨g',live X h',w'⟩ v u/\Step X g h w g' h' w'
def QCall (P:Program) (f:FuncId) (args:List AV) (h:Heap) (v:AV):Prop:=
 ACalls P f args h fun v' h'=>v'=v/\h'=h
def lenP (d:Option TypeDesc) (x:AV) (K:AV->Prop):Prop:=
 match d,x with
 | some (.slice _),.sl _ _ xs=>K (.int .i64 xs.length)
 | some (.slice _),.nilS=>K (.int .i64 0)
 | some (.slice _),.slz _=>K (.int .i64 0)
 | some (.slice _),.nilO=>K (.int .i64 0)
 | some (.slice _),.osl _ _ n _=>K (.int .i64 n)
 | some (.slice _),.oslc _ _ n _ _=>K (.int .i64 n)
 | some .string,.str s=>K (.int .i64 s.length)
 | _,_=>False
def fieldOf (P:Program) (s:TypeId) (f:Nat):Option Field:=
 match P.underlying s with
 | some (.struct fs)=>fs.toList[f]?
 | _=>none
def loadI (P:Program) (t:TypeId) (cs:List AV) (K:AV->Prop):Prop:=
 match aggT P t with
 | some true=>(match takeN (P.cellsOf t) cs with
   | some l=>K (.agg l)
   | none=>False)
 | some false=>(match cs with
   | c::_=>K c
   | []=>False)
 | none=>False
def foldI (f:Int->Int->Int):Int->List AV->Option Int
 | x,[]=>some x
 | x,.int .i64 y::r=>foldI f (f x y) r
 | _,_=>none
def fillC:List (Nat × AV)->(Nat->Option (Nat × Nat))->List AV->Option (List AV)
 | [],_,cs=>some cs
 | (i,v)::r,place,cs=>match place i with
   | some (off,size)=>
     (match cellsV v with
      | some l=>(match Nat.beq l.length size with
        | true=>(match takeN off cs with
          | some a=>(match dropN (off+size) cs with
            | some b=>fillC r place (a++l++b)
            | none=>none)
          | none=>none)
        | false=>none)
      | none=>none)
   | none=>none
def placesOf (P:Program):List Field->Option (List (Nat × Nat))
 | []=>some []
 | f::fs=>match P.info? f.type with
   | some i=>(match placesOf P fs with
     | some l=>some ((f.offset,i.size)::l)
     | none=>none)
   | none=>none
def partsOf (r:Regs) (g:G):List (Nat × Operand)->Option (List (Nat × AV))
 | []=>some []
 | (i,x)::ps=>match opnd r g x with
   | some v=>(match partsOf r g ps with
     | some l=>some ((i,v)::l)
     | none=>none)
   | none=>none
def elemsOf (r:Regs) (g:G) (size:Nat):Nat->List (Nat × Operand)->Option (List (List AV))
 | _,[]=>some []
 | n,(i,x)::ps=>match Nat.beq i n with
   | true=>(match opnd r g x with
     | some v=>(match cellsV v with
       | some x=>(match Nat.beq x.length size with
         | true=>(match elemsOf r g size (n+1) ps with
           | some l=>some (x::l)
           | none=>none)
         | false=>none)
       | none=>none)
     | none=>none)
   | false=>none
def tokIf:Bool->Option Nat->Option Nat
 | true,t=>t
 | false,_=>none
def offC (off l cap k:Nat):Nat:=if cap=l then off else off+l*k
def sliceP (g:G) (x:AV) (lo hi:Int) (hiAll:Bool) (K:AV->Prop):Prop:=
 match x with
 | .str s=>gP g (0<=lo/\lo<=hi/\hi<=s.length)/\K (.str ((s.take hi.toNat).drop lo.toNat))
 | .sl k t xs=>gP g (0<=lo/\lo<=hi/\hi<=xs.length)/\K (.sl k (tokIf hiAll t) ((xs.take hi.toNat).drop lo.toNat))
 | .osl b off n k=>gP g (0<=lo/\lo<=hi/\hi<=n/\(lo=0\/lo<hi\/lo=hi))/\K (.osl b (off+lo.toNat*k) (hi.toNat - lo.toNat) k)
 | .oslc b off n c k=>gP g (0<=lo/\lo<=hi/\hi<=c/\hi<=140737488355328)/\K (.oslc b (offC off lo.toNat c k) (hi.toNat - lo.toNat) (c - lo.toNat) k)
 | .nilS=>gP g (lo=0/\hi=0)/\K .nilS
 | _=>False
def sliceTy (P:Program) (t:TypeId):AV->Bool
 | .str _=>(match P.underlying t with|some .string=>true|_=>false)
 | .sl k _ _=>(match P.underlying t with|some (.slice e)=>Nat.beq (P.cellsOf e) k|_=>false)
 | .osl _ _ _ k=>(match P.underlying t with|some (.slice e)=>Nat.beq (P.cellsOf e) k|_=>false)
 | .oslc _ _ _ _ k=>(match P.underlying t with|some (.slice e)=>Nat.beq (P.cellsOf e) k|_=>false)
 | .nilS=>(match P.underlying t with|some (.slice e)=>Nat.ble 1 (P.cellsOf e)|_=>false)
 | _=>false
def intOf?:AV->Option Int
 | .int _ n=>some n
 | _=>none
def lenOf?:AV->Option Nat
 | .sl _ _ xs=>some xs.length
 | .osl _ _ n _=>some n
 | .oslc _ _ n _ _=>some n
 | .str s=>some s.length
 | .nilS=>some 0
 | _=>none
def optInt (r:Regs) (g:G):Option Operand->Int->Option Int
 | none,d=>some d
 | some x,_=>match opnd r g x with
   | some v=>intOf? v
   | none=>none
def runesL (ns:List Int):List UInt8:=(runesBytes ns).data.toList
theorem flat1 (f:Int->AV):∀ ns:List Int,(ns.map fun n=>[f n]).flatten=ns.map f
 | []=>rfl
 | x::l=>by simp [flat1 f l]
def runesP (P:Program) (s:TypeId) (xs:List (List AV)) (K:AV->Prop):Prop:=
 match P.underlying s with
 | some (.slice e)=>(match P.underlying e with
   | some (.int .i32)=>∃ ns:List Int,(xs=ns.map (fun n=>[AV.int .i32 n])/\ns≠[]/\ns.length<=65536)/\K (.str (runesL ns))
   | _=>False)
 | _=>False
def opQ (P:Program) (r:Regs) (g:G) (h:Heap) (K:AV->Prop):Op->Prop
 | .move x=>match opnd r g x with|some v=>K v|none=>False
 | .assign x=>match opnd r g x with|some v=>K v|none=>False
 | .pick (.tmp t) (.tmp a) (.const (.bool false))=>
   (match opnd r g (.tmp t) with
   | some (.bool b)=>(match opnd r (g++[(t,b,true)]) (.tmp a) with
     | some (.bool x)=>K (.bool (b&&x))
     | _=>False)
   | _=>False)
 | .pick (.tmp t) (.const (.bool true)) (.tmp a)=>
   (match opnd r g (.tmp t) with
   | some (.bool b)=>(match opnd r (g++[(t,b,false)]) (.tmp a) with
     | some (.bool x)=>K (.bool (b||x))
     | _=>False)
   | _=>False)
 | .binOp op t x y _=>(match opnd r g x with
   | some u=>(match opnd r g y with
     | some v=>binP P g t op u v K
     | none=>False)
   | none=>False)
 | .unOp .not _ x=>(match opnd r g x with|some (.bool b)=>K (.bool (!b))|_=>False)
 | .fieldAddr s x f=>(match opnd r g x with
   | some (.iptr cs)=>(match fieldOf P s f with
     | some fd=>(match dropN fd.offset cs with
       | some l=>(match Nat.ble 1 (P.cellsOf fd.type) with|true=>K (.iptr l)|false=>False)
       | none=>False)
     | none=>False)
   | some (.optr b o)=>(match fieldOf P s f with
     | some fd=>(match Nat.ble 1 (P.cellsOf fd.type) with|true=>K (.optr b (o+fd.offset))|false=>False)
     | none=>False)
   | _=>False)
 | .field s x f=>(match opnd r g x with
   | some (.agg cs)=>(match fieldOf P s f with
     | some fd=>(match dropN fd.offset cs with
       | some l=>loadI P fd.type l K
       | none=>False)
     | none=>False)
   | _=>False)
 | .load t x=>(match opnd r g x with
   | some (.iptr cs)=>loadI P t cs K
   | some (.optr b o)=>∃ cs l,(b,Ob.vec cs)∈h/\dropN o cs=some l/\loadI P t l K
   | _=>False)
 | .box t x=>(match opnd r g x with
   | some v=>(match cellsV v with
     | some l=>(match Nat.beq l.length (P.cellsOf t) with|true=>K (.iptr l)|false=>False)
     | none=>False)
   | none=>False)
 | .indexAddr t x i=>(match P.underlying t with
   | some (.slice e)=>(match opnd r g x with
     | some (.sl k _ xs)=>(match Nat.beq k (P.cellsOf e) with
       | true=>(match opnd r g i with
         | some (.int _ n)=>∃ (j:Nat) (y:List AV),gP g (n=(j:Int)/\xs[j]?=some y)/\K (.iptr y)
         | _=>False)
       | false=>False)
     | some (.osl b off len k)=>(match Nat.beq k (P.cellsOf e) with
       | true=>(match opnd r g i with
         | some (.int _ n)=>∃ (j:Nat),gP g (n=(j:Int)/\j<len)/\K (.optr b (off+j*k))
         | _=>False)
       | false=>False)
     | _=>False)
   | some (.array m e)=>(match P.info? e with
     | some _=>(match opnd r g x with
       | some (.iptr cs)=>(match opnd r g i with
         | some (.int _ n)=>∃ (j:Nat) (l:List AV),gP g (n=(j:Int)/\j<m)/\dropN (j*P.cellsOf e) cs=some l/\K (.iptr l)
         | _=>False)
       | _=>False)
     | none=>False)
   | _=>False)
 | .index t x i=>(match P.underlying t with
   | some .string=>(match opnd r g x with
     | some (.str s)=>(match opnd r g i with
       | some (.int _ n)=>∃ (j:Nat) (y:UInt8),gP g (n=(j:Int)/\s[j]?=some y)/\K (.int .u8 y.toNat)
       | _=>False)
     | _=>False)
   | _=>False)
 | .nilCheck x=>(match opnd r g x with
   | some (.iptr cs)=>K (.iptr cs)
   | some (.optr b o)=>K (.optr b o)
   | _=>False)
 | .extract x i=>(match opnd r g x with
   | some (.tup vs)=>(match dropN i vs with
     | some (v::_)=>K v
     | _=>False)
   | _=>False)
 | .build t parts=>(match P.underlying t with
   | some (.struct fs)=>(match placesOf P fs.toList with
     | some pl=>(match partsOf r g parts.toList with
       | some ps=>(match zeroCs P t with
         | some z=>(match fillC ps (fun i=>pl[i]?) z with
           | some cs=>K (.agg cs)
           | none=>False)
         | none=>False)
       | none=>False)
     | none=>False)
   | some (.array _ e)=>(match P.info? e with
     | some ie=>(match partsOf r g parts.toList with
       | some ps=>(match zeroCs P t with
         | some z=>(match fillC ps (fun i=>some (i*ie.size,ie.size)) z with
           | some cs=>K (.agg cs)
           | none=>False)
         | none=>False)
       | none=>False)
     | none=>False)
   | _=>False)
 | .buildSlice t n parts=>(match P.underlying t with
   | some (.slice e)=>(match elemsOf r g (P.cellsOf e) 0 parts.toList with
     | some l=>(match Nat.beq l.length n with
       | true=>(match Nat.ble 1 (P.cellsOf e) with
         | true=>(match Nat.ble (n*P.cellsOf e) 65536 with
           | true=>(match zeroCs P e with
             | some z=>(match Nat.beq z.length (P.cellsOf e) with
               | true=>K (.sl (P.cellsOf e) none l)
               | false=>False)
             | none=>False)
           | false=>False)
         | false=>False)
       | false=>False)
     | none=>False)
   | _=>False)
 | .slice t x lo hi none=>(match opnd r g x with
   | some v=>(match sliceTy P t v with
     | true=>(match lenOf? v with
       | some n=>(match optInt r g lo 0 with
         | some a=>(match optInt r g hi n with
           | some b=>sliceP g v a b (match hi with|none=>true|some _=>false) K
           | none=>False)
         | none=>False)
       | none=>False)
     | false=>False)
   | none=>False)
 | .convert s t x=>(match P.underlying s with
   | some _=>(match P.underlying t,opnd r g x with
     | some (.int k),some (.int _ n)=>arith g k n K
     | some .string,some (.str s)=>K (.str s)
     | some .string,some (.sl 1 _ xs)=>runesP P s xs K
     | _,_=>False)
   | none=>False)
 | .makeFunc (.func f) first caps=>(match first.toList with
   | []=>(match opnds r g caps.toList with
     | some l=>K (.fn f l)
     | none=>False)
   | _=>False)
 | .call cl=>(match cl.callee with
   | .builtin .len=>(match cl.argTypes.toList with
     | [t]=>(match opnds r g cl.args.toList with
       | some [x]=>lenP (P.underlying t) x K
       | _=>False)
     | _=>False)
   | .builtin .cap=>(match cl.argTypes.toList with
     | [t]=>(match P.underlying t with
       | some (.slice _)=>(match opnds r g cl.args.toList with
         | some [.oslc _ _ _ c _]=>K (.int .i64 c)
         | _=>False)
       | _=>False)
     | _=>False)
   | .builtin .min=>(match opnds r g cl.args.toList with
     | some (.int .i64 x::l)=>(match foldI min x l with
       | some n=>K (.int .i64 n)
       | none=>False)
     | _=>False)
   | .builtin .max=>(match opnds r g cl.args.toList with
     | some (.int .i64 x::l)=>(match foldI max x l with
       | some n=>K (.int .i64 n)
       | none=>False)
     | _=>False)
   | .value (.func f)=>(match opnds r g cl.args.toList with
     | some vs=>∃ v,gP g (QCall P f vs h v)/\K v
     | none=>False)
   | .value (.tmp t)=>(match opnd r g (.tmp t) with
     | some (.fn f caps)=>(match opnds r g cl.args.toList with
       | some vs=>∃ v,gP g (QCall P f (vs++caps) h v)/\K v
       | none=>False)
     | _=>False)
   | _=>False)
 | .lookup t x i ok=>(match P.underlying t with
   | some (.map kt et)=>(match opnd r g i with
     | some k=>(match zeroV P et with
       | some z=>(match opnd r g x with
         | some (.omap b)=>∃ es v f,(b,Ob.map es)∈h/\gP g (keyFits P kt k/\mlook P kt k es z=some (v,f))/\K (okTup ok v f)
         | some .nilM=>gP g (keyFits P kt k)/\K (okTup ok z false)
         | _=>False)
       | none=>False)
     | none=>False)
   | _=>False)
 | _=>False
def setC (cs:List AV) (o:Nat) (vs:List AV):List AV:=cs.take o++vs++cs.drop (o+vs.length)
def repC (n:Nat) (z:List AV):List AV:=(List.replicate n z).flatten
def AMAX:Nat:=4294967296
def srcOf (k:Nat):AV->Option (List (List AV))
 | .sl k' _ ys=>(match Nat.beq k' k with|true=>some ys|false=>none)
 | .nilS=>some []
 | .slz k'=>(match Nat.beq k' k with|true=>some []|false=>none)
 | .str s=>(match Nat.beq 1 k with|true=>some (s.map fun b=>[AV.int .u8 b.toNat])|false=>none)
 | _=>none
def srcTy (P:Program) (t:TypeId):Bool:=
 match P.underlying t with
 | some (.slice _)=>true
 | some .string=>true
 | _=>false
def decS (s:List UInt8) (pos:Nat):Nat × Nat:=Utf8.decode ⟨s.toArray⟩ pos
def opL (P:Program) (r:Regs) (h:Heap) (K:AV->Heap->Prop):Op->Prop
 | .box t x=>(match opnd r [] x with
   | some v=>(match cellsV v with
     | some l=>(match Nat.beq l.length (P.cellsOf t) with|true=>∀ b,K (.optr b 0) ((b,.vec l)::h)|false=>False)
     | none=>False)
   | none=>False)
 | .alloc t=>(match zeroCs P t with
   | some z=>∀ b,K (.optr b 0) ((b,.vec z)::h)
   | none=>False)
 | .store t x y=>(match opnd r [] x with
   | some (.optr b o)=>(match opnd r [] y with
     | some v=>(match cellsV v with
       | some l=>(match Nat.beq l.length (P.cellsOf t) with
         | true=>∃ cs h',Upd b (.vec cs) b (.vec (setC cs o l)) h h'/\(0<l.length/\o+l.length<=cs.length)/\K .unit h'
         | false=>False)
       | none=>False)
     | none=>False)
   | _=>False)
 | .binOp .add _ x y _=>(match opnd r [] x with
   | some (.int .i64 a)=>(match opnd r [] y with
     | some (.int .i64 b)=>K (.int .i64 (IntKind.i64.wrap (a+b))) h
     | _=>False)
   | _=>False)
 | .makeMap _ none=>∀ b,K (.omap b) ((b,.map [])::h)
 | .mapUpdate t m k x=>(match P.underlying t with
   | some (.map kt _)=>(match opnd r [] m with
     | some (.omap b)=>(match opnd r [] k with
       | some kv=>(match opnd r [] x with
         | some v=>∃ es h',Upd b (.map es) b (.map (mset P kt kv v es)) h h'/\(keyFits P kt kv/\mget P kt kv es≠none)/\K .unit h'
         | none=>False)
       | none=>False)
     | _=>False)
   | _=>False)
 | .range t x=>(match P.underlying t with
   | some (.map _ _)=>(match opnd r [] x with
     | some (.omap m)=>∃ es,(m,Ob.map es)∈h/\∀ bs cl,bs.length=es.length/\bs.Nodup->∃ h',Upd m (.map es) m (.rmap es bs cl) h h'/\∀ it,K (.oit it) ((it,.iter m cl [])::h')
     | _=>False)
   | some .string=>(match opnd r [] x with
     | some (.str s)=>∀ it,K (.oit it) ((it,.siter s 0)::h)
     | _=>False)
   | _=>False)
 | .next x true=>(match opnd r [] x with
   | some (.oit it)=>∃ s pos,(it,Ob.siter s pos)∈h/\(s.length<=pos->K (.tup [.bool false]) h) /\
      (pos<s.length->∃ h',Upd it (.siter s pos) it (.siter s (pos+(decS s pos).2)) h h'/\K (.tup [.bool true,.int .i64 pos,.int .i32 (decS s pos).1]) h')
   | _=>False)
 | .next x false=>(match opnd r [] x with
   | some (.oit it)=>∃ m cl seen es bs,(it,Ob.iter m cl seen)∈h/\(m,Ob.rmap es bs cl)∈h/\((∀ b∈bs,b∈seen)->K (.tup [.bool false]) h) /\
      ∀ (i:Nat) b e,bs[i]?=some b->es[i]?=some e->b ∉ seen->∃ h',Upd it (.iter m cl seen) it (.iter m cl (seen++[b])) h h'/\K (.tup [.bool true,e.1,e.2]) h'
   | _=>False)
 | .entry x=>(match opnd r [] x with
   | some (.oit it)=>∃ m cl seen es bs,(it,Ob.iter m cl seen)∈h/\(m,Ob.rmap es bs cl)∈h/\∃ (i:Nat) (b:Nat) (e:AV × AV) (s0:List Nat),seen=s0++[b]/\bs[i]?=some b/\es[i]?=some e/\K (.tup [e.1,e.2]) h
   | _=>False)
 | .makeSlice t x y=>(match P.underlying t with
   | some (.slice e)=>(match opnd r [] x with
     | some (.int _ n)=>(match opnd r [] y with
       | some (.int _ m)=>(match zeroCs P e with
         | some z=>(match Nat.beq z.length (P.cellsOf e) with
           | true=>(match Nat.ble 1 z.length with
             | true=>(match Nat.ble (P.bytesOf e) 4096 with
               | true=>(n=m/\0<=n/\n<=4294967296)/\∀ b,K (.osl b 0 n.toNat z.length) ((b,.vec (repC n.toNat z))::h)
               | false=>False)
             | false=>False)
           | false=>False)
         | none=>False)
       | _=>False)
     | _=>False)
   | _=>False)
 | .buildSlice t n parts=>(match P.underlying t with
   | some (.slice e)=>(match elemsOf r [] (P.cellsOf e) 0 parts.toList with
     | some l=>(match Nat.beq l.length n with
       | true=>(match Nat.ble 1 (P.cellsOf e) with
         | true=>(match Nat.ble (n*P.cellsOf e) 65536 with
           | true=>(match zeroCs P e with
             | some z=>(match Nat.beq z.length (P.cellsOf e) with
               | true=>∀ q,K (.sl (P.cellsOf e) (some q) l) ((q,.tok)::h)
               | false=>False)
             | none=>False)
           | false=>False)
         | false=>False)
       | false=>False)
     | none=>False)
   | _=>False)
 | .call cl=>(match cl.callee with
   | .value (.func f)=>(match opnds r [] cl.args.toList with
     | some vs=>ACalls P f vs h K
     | none=>False)
   | .value (.tmp t)=>(match opnd r [] (.tmp t) with
     | some (.fn f caps)=>(match opnds r [] cl.args.toList with
       | some vs=>ACalls P f (vs++caps) h K
       | none=>False)
     | _=>False)
   | .builtin .append=>(match cl.argTypes.toList with
     | [t,tx]=>(match P.underlying t,srcTy P tx with
       | some (.slice e),true=>(match Nat.ble 1 (P.cellsOf e) with
         | true=>(match Nat.ble (P.bytesOf e) 4096 with
           | true=>(match zeroCs P e with
            | none=>False
            | some z=>match Nat.beq z.length (P.cellsOf e) with
             | false=>False
             | true=>match opnds r [] cl.args.toList with
             | some [.nilS,.osl b2 o2 n2 k2]=>(match Nat.beq k2 (P.cellsOf e) with
               | true=>∃ (cs2:List AV) (ys:List (List AV)),(b2,Ob.vec cs2)∈h/\((cs2.drop o2).take (n2*k2)=ys.flatten/\(∀ z∈ys,z.length=k2)/\ys.length=n2)/\(0<n2/\n2<=AMAX)/\∀ b,K (.osl b 0 n2 k2) ((b,.vec ys.flatten)::h)
               | false=>False)
             | some [.oslc b off n c k,.osl b2 o2 n2 k2]=>(match Nat.beq k (P.cellsOf e),Nat.beq k2 k with
               | true,true=>∃ (cs2:List AV) (ys:List (List AV)),(b2,Ob.vec cs2)∈h/\((cs2.drop o2).take (n2*k2)=ys.flatten/\(∀ z∈ys,z.length=k2)/\ys.length=n2)/\n+n2<=AMAX/\∃ cs,(b,Ob.vec cs)∈h /\
                 ((n+n2<=c/\cs.length=off+n*k/\∃ h',Upd b (.vec cs) b (.vec (cs++ys.flatten)) h h'/\K (.oslc b off (n+n2) c k) h') \/
                  (c<n+n2/\(n=0\/off+n*k<=cs.length)/\∀ q,K (.osl q 0 (n+n2) k) ((q,.vec ((cs.drop off).take (n*k)++ys.flatten))::h)))
               | _,_=>False)
             | some [.nilS,y]=>(match srcOf (P.cellsOf e) y with
               | some ys=>ys.length<=AMAX/\∀ q,K (.sl (P.cellsOf e) (some q) ys) ((q,.tok)::h)
               | none=>False)
             | some [.nilO,y]=>(match srcOf (P.cellsOf e) y with
               | some ys=>(0<ys.length/\ys.length<=AMAX)/\∀ b,K (.osl b 0 ys.length (P.cellsOf e)) ((b,.vec ys.flatten)::h)
               | none=>False)
             | some [.osl b 0 n k,y]=>(match Nat.beq k (P.cellsOf e) with
               | true=>(match srcOf k y with
                 | some ys=>∃ cs,(b,Ob.vec cs)∈h/\(cs.length=n*k/\n+ys.length<=AMAX)/\∀ b',∃ h',Upd b (.vec cs) b' (.vec (cs++ys.flatten)) h h'/\K (.osl b' 0 (n+ys.length) k) h'
                 | none=>False)
               | false=>False)
             | some [.sl k (some q) xs,.osl b2 o2 n2 k2]=>(match Nat.beq k (P.cellsOf e),Nat.beq k2 k with
               | true,true=>∃ cs ys,(b2,Ob.vec cs)∈h/\((cs.drop o2).take (n2*k2)=ys.flatten/\(∀ z∈ys,z.length=k2)/\ys.length=n2)/\(xs++ys).length<=AMAX/\∀ q',∃ h',Upd q .tok q' .tok h h'/\K (.sl k (some q') (xs++ys)) h'
               | _,_=>False)
             | some [.sl k (some q) xs,y]=>(match Nat.beq k (P.cellsOf e) with
               | true=>(match srcOf k y with
                 | some ys=>(xs++ys).length<=AMAX/\∀ q',∃ h',Upd q .tok q' .tok h h'/\K (.sl k (some q') (xs++ys)) h'
                 | none=>False)
               | false=>False)
             | _=>False)
           | false=>False)
         | false=>False)
       | some (.slice e),false=>(match P.underlying tx with
         | some (.int _)=>(match Nat.ble 1 (P.cellsOf e) with
           | true=>(match Nat.ble (P.bytesOf e) 4096 with
             | true=>(match zeroCs P e with
               | some z=>(match Nat.beq z.length (P.cellsOf e) with
                 | true=>(match opnds r [] cl.args.toList with
                   | some [.oslc b off n c k,.int _ m]=>(match Nat.beq k (P.cellsOf e) with
                     | true=>∃ (cs:List AV),(b,Ob.vec cs)∈h/\(0<m/\(c:Int)<n+m/\(n:Int)+m<=4294967296/\off+n*k<=cs.length)/\∀ q,K (.osl q 0 (n+m.toNat) k) ((q,.vec ((cs.drop off).take (n*k)++repC m.toNat z))::h)
                     | false=>False)
                   | _=>False)
                 | false=>False)
               | none=>False)
             | false=>False)
           | false=>False)
         | _=>False)
       | _,_=>False)
     | _=>False)
   | .builtin .copy=>(match cl.argTypes.toList with
     | [t,_]=>(match P.underlying t with
       | some (.slice e)=>(match opnds r [] cl.args.toList with
         | some [.osl b o n k,.osl b2 o2 n2 k2]=>(match Nat.beq k (P.cellsOf e),Nat.beq k2 k,Nat.ble 1 (P.cellsOf e) with
           | true,true,true=>∃ (cs2:List AV) (ys:List (List AV)),(b2,Ob.vec cs2)∈h/\((cs2.drop o2).take (min n2 n*k2)=ys.flatten/\(∀ z∈ys,z.length=k2)/\ys.length=min n2 n) /\
              ∃ cs h',Upd b (.vec cs) b (.vec (setC cs o ys.flatten)) h h'/\(0<min n2 n/\o+ys.flatten.length<=cs.length)/\K (.int .i64 (min n2 n:Nat)) h'
           | _,_,_=>False)
         | some [.osl b o n k,.oslc b2 o2 n2 _ k2]=>(match Nat.beq k (P.cellsOf e),Nat.beq k2 k,Nat.ble 1 (P.cellsOf e) with
           | true,true,true=>∃ (cs2:List AV) (ys:List (List AV)),(b2,Ob.vec cs2)∈h/\((cs2.drop o2).take (min n2 n*k2)=ys.flatten/\(∀ z∈ys,z.length=k2)/\ys.length=min n2 n) /\
              ∃ cs h',Upd b (.vec cs) b (.vec (setC cs o ys.flatten)) h h'/\(0<min n2 n/\o+ys.flatten.length<=cs.length)/\K (.int .i64 (min n2 n:Nat)) h'
           | _,_,_=>False)
         | some [.oslc b o n _ k,.oslc b2 o2 n2 _ k2]=>(match Nat.beq k (P.cellsOf e),Nat.beq k2 k,Nat.ble 1 (P.cellsOf e) with
           | true,true,true=>∃ (cs2:List AV) (ys:List (List AV)),(b2,Ob.vec cs2)∈h/\((cs2.drop o2).take (min n2 n*k2)=ys.flatten/\(∀ z∈ys,z.length=k2)/\ys.length=min n2 n) /\
              ∃ cs h',Upd b (.vec cs) b (.vec (setC cs o ys.flatten)) h h'/\(0<min n2 n/\o<=cs.length)/\K (.int .i64 (min n2 n:Nat)) h'
           | _,_,_=>False)
         | some [.oslc b o n _ k,.osl b2 o2 n2 k2]=>(match Nat.beq k (P.cellsOf e),Nat.beq k2 k,Nat.ble 1 (P.cellsOf e) with
           | true,true,true=>∃ (cs2:List AV) (ys:List (List AV)),(b2,Ob.vec cs2)∈h/\((cs2.drop o2).take (min n2 n*k2)=ys.flatten/\(∀ z∈ys,z.length=k2)/\ys.length=min n2 n) /\
              ∃ cs h',Upd b (.vec cs) b (.vec (setC cs o ys.flatten)) h h'/\(0<min n2 n/\o<=cs.length)/\K (.int .i64 (min n2 n:Nat)) h'
           | _,_,_=>False)
         | some [.osl b o n k,y]=>(match Nat.beq k (P.cellsOf e),Nat.ble 1 (P.cellsOf e) with
           | true,true=>(match srcOf k y with
             | some ys=>∃ cs h',Upd b (.vec cs) b (.vec (setC cs o ys.flatten)) h h'/\(0<ys.length/\ys.length<=n/\o+ys.flatten.length<=cs.length)/\K (.int .i64 ys.length) h'
             | none=>False)
           | _,_=>False)
         | _=>False)
       | _=>False)
     | _=>False)
   | .builtin .clear=>(match cl.argTypes.toList with
     | [t]=>(match P.underlying t with
       | some (.slice e)=>(match zeroCs P e with
         | some z=>(match opnds r [] cl.args.toList with
           | some [.osl b o n k]=>(match Nat.beq z.length k with
             | true=>∃ cs h',Upd b (.vec cs) b (.vec (setC cs o (repC n z))) h h'/\(0<n/\o+n*k<=cs.length)/\K (.tup []) h'
             | false=>False)
           | _=>False)
         | none=>False)
       | _=>False)
     | _=>False)
   | _=>False)
 | _=>False
def opO (P:Program) (r:Regs) (h:Heap) (K:AV->Heap->Prop) (cl:Call):Prop:=
 match cl.callee with
 | .builtin .append=>(match cl.argTypes.toList with
   | [t,tx]=>(match P.underlying t,srcTy P tx with
     | some (.slice e),true=>(match Nat.ble 1 (P.cellsOf e) with
       | true=>(match Nat.ble (P.bytesOf e) 4096 with
         | true=>(match zeroCs P e with
           | none=>False
           | some z=>match Nat.beq z.length (P.cellsOf e) with
             | false=>False
             | true=>match opnds r [] cl.args.toList with
               | some [.nilS,y]=>(match srcOf (P.cellsOf e) y with
                 | some ys=>(0<ys.length/\ys.length<=AMAX)/\∀ b,K (.osl b 0 ys.length (P.cellsOf e)) ((b,.vec ys.flatten)::h)
                 | none=>False)
               | some [.oslc b off 0 0 k,y]=>(match Nat.beq k (P.cellsOf e) with
                 | true=>(match srcOf k y with
                   | some ys=>((∃ cs,(b,Ob.vec cs)∈h)/\0<ys.length/\ys.length<=AMAX)/\∀ q,K (.osl q 0 ys.length k) ((q,.vec ys.flatten)::h)
                   | none=>False)
                 | false=>False)
               | _=>False)
         | false=>False)
       | false=>False)
     | _,_=>False)
   | _=>False)
 | _=>False
def opB (P:Program) (r:Regs) (h:Heap) (K:AV->Heap->Prop) (t:TypeId) (n:Nat) (parts:Array (Nat × Operand)):Prop:=
 match P.underlying t with
 | some (.slice e)=>(match elemsOf r [] (P.cellsOf e) 0 parts.toList with
   | some l=>(match Nat.beq l.length n,Nat.ble 1 (P.cellsOf e),Nat.ble (n*P.cellsOf e) 65536 with
     | true,true,true=>(match zeroCs P e with
       | some z=>(match Nat.beq z.length (P.cellsOf e) with
         | true=>(match n with
           | 0=>∀ b,K (.oslc b 0 0 0 (P.cellsOf e)) ((b,.vec [])::h)
           | n+1=>∀ b,K (.osl b 0 (n+1) (P.cellsOf e)) ((b,.vec l.flatten)::h))
         | false=>False)
       | none=>False)
     | _,_,_=>False)
   | none=>False)
 | _=>False
def opX (P:Program) (own own2:List Nat) (d:Option Nat) (r:Regs) (h:Heap) (K:AV->Heap->Prop) (op:Op):Prop:=
 match op,d with
 | .call cl,some d=>(match memN own d with
   | true=>opO P r h K cl
   | false=>opL P r h K (.call cl))
 | .buildSlice t n parts,some d=>(match memN own2 d with
   | true=>opB P r h K t n parts
   | false=>opL P r h K (.buildSlice t n parts))
 | _,_=>opL P r h K op
def notIn:Regs->Nat->Bool
 | [],_=>true
 | (_,[],_)::r,d=>notIn r d
 | (_,(e::g),_)::r,d=>match memT (e::g) d with
   | true=>false
   | false=>notIn r d
where memT:G->Nat->Bool
 | [],_=>false
 | (t,_,_)::g,d=>match Nat.beq t d with
   | true=>true
   | false=>memT g d
def loud (c:Cfg) (d:Option Nat):Op->Bool
 | .box _ _|.buildSlice _ _ _|.binOp _ _ _ _ _=>match d with
   | some n=>memN c.own n
   | none=>false
 | .alloc _|.store _ _ _|.makeMap _ _|.makeSlice _ _ _|.mapUpdate _ _ _ _|.range _ _|.next _ _|.entry _=>true
 | .call cl=>(match cl.callee with
   | .builtin .append=>true
   | .builtin .clear=>true
   | .builtin .copy=>true
   | .value _=>true
   | _=>false)
 | _=>false
def isCallV:Op->Bool
 | .call cl=>(match cl.callee with
   | .value _=>true
   | _=>false)
 | _=>false
def normK (r:Regs) (k:Regs->Prop):List Nat->Prop
 | []=>k []
 | t::ts=>match lookR r t with
   | some ([],v)=>normK r (fun l=>k ((t,[],v)::l)) ts
   | _=>normK r k ts
def setP (n:Nat) (d:Option Nat) (g:G) (v:AV) (r:Regs) (K:Regs->Prop):Prop:=
 match d with
 | none=>K r
 | some d=>match Nat.blt d n with
   | true=>(match notIn ((d,g,v)::r) d with
     | true=>K ((d,g,v)::r)
     | false=>False)
   | false=>False
def storeF (P:Program) (r:Regs) (h:Heap) (t:TypeId) (d:Nat) (y:Operand) (K:Regs->Heap->Prop):Prop:=
 match opnd r [] (.tmp d) with
 | some (.optr b 0)=>(match opnd r [] y with
   | some v=>(match cellsV v with
     | some l=>(match Nat.beq l.length (P.cellsOf t) with
       | true=>∃ cs h',Rem b (.vec cs) h h'/\(0<l.length/\cs.length=l.length)/\K ((d,[],.iptr l)::r) h'
       | false=>False)
     | none=>False)
   | none=>False)
 | _=>False
def ungG (tj:Nat) (w:Bool):G->G
 | []=>[]
 | (t,b,v)::g=>match Nat.beq t tj with
   | true=>(match eqB v w with
     | true=>ungG tj w g
     | false=>(t,b,v)::ungG tj w g)
   | false=>(t,b,v)::ungG tj w g
def ung (tj:Nat) (w:Bool):Regs->Regs
 | []=>[]
 | (t,g,v)::r=>(t,ungG tj w g,v)::ung tj w r
def regP (P:Program) (c:Cfg) (n:Nat) (all:List Oper) (K:Regs->Heap->Prop):List Oper->Regs->Heap->Prop
 | [],r,h=>normK r (fun r'=>K r' h) c.keep
 | o::os,r,h=>
   match o.guard with
   | none=>(match loud c o.dst o.op with
     | true=>(match o.op,o.dst with
       | .store t (.tmp d) y,none=>(match memN c.frz d with
         | true=>storeF P r h t d y (regP P c n all K os)
         | false=>opL P r h (fun v h'=>setP n o.dst [] v r fun r'=>regP P c n all K os r' h') o.op)
       | _,_=>opX P c.own c.lc o.dst r h (fun v h'=>setP n o.dst [] v r fun r'=>regP P c n all K os r' h') o.op)
     | false=>opQ P r [] h (fun v=>setP n o.dst [] v r fun r'=>regP P c n all K os r' h) o.op)
   | some (j,w)=>match all[j]? with
     | some oj=>(match oj.dst with
       | some tj=>(match lookR r tj with
         | some (gj,.bool b)=>(match isCallV o.op,(match o.dst with|some d=>memN c.spl d|none=>false) with
           | true,true=>(match gj with
             | []=>(b=w->opL P (ung tj w r) h (fun v h'=>setP n o.dst [] v (ung tj w r) fun r'=>regP P c n all K os r' h') o.op) /\
                (b≠w->setP n o.dst [(tj,b,w)] (.bool false) r fun r'=>regP P c n all K os r' h)
             | _=>False)
           | _,_=>(match (match isCallV o.op with|true=>false|false=>loud c o.dst o.op) with
             | true=>False
             | false=>opQ P r (gj++[(tj,b,w)]) h (fun v=>setP n o.dst (gj++[(tj,b,w)]) v r fun r'=>regP P c n all K os r' h) o.op))
         | _=>False)
       | none=>False)
     | none=>False
def clN (cl:List Nat) (i:Nat):Nat:=match cl[i]? with|some m=>m|none=>0
def cloAt (cl:List Nat):List Edge->Nat
 | []=>0
 | e::es=>match Region.binds .any e with
   | true=>Nat.lor (Nat.lor (2 ^ e.on) (clN cl e.on)) (cloAt cl es)
   | false=>cloAt cl es
def clos:List Oper->List Nat->List Nat
 | [],acc=>acc
 | o::os,acc=>clos os (acc++[cloAt acc o.after.toList])
def readsX:List Operand->List Nat
 | []=>[]
 | .tmp t::xs=>t::readsX xs
 | _::xs=>readsX xs
def readsOf (all:List Oper) (o:Oper):List Nat:=
 (match o.guard with
  | some (j,_)=>(match all[j]? with
    | some oj=>(match oj.dst with|some t=>[t]|none=>[])
    | none=>[])
  | none=>[])++readsX o.op.operands.toList
def isDst (t:Nat) (o:Oper):Bool:=match o.dst with|some d=>Nat.beq d t|none=>false
def nearOK (cl:List Nat) (all:List (Nat × Oper)) (i t:Nat):Bool:=all.all fun (j,o)=>!isDst t o||Nat.testBit (clN cl i) j||Nat.testBit (clN cl j) i
def drawOK (all:List Oper) (ord:List Nat):Bool:=
 let cl:=clos all []
 let ix:=all.zipIdx.map fun (o,i)=>(i,o)
 (ix.all fun (i,o)=>(o.after.toList.all fun e=>!Region.binds .any e||Nat.blt e.on i)&&Nat.beq (clN cl i) (cloAt cl o.after.toList)) &&
 Nat.beq ord.length all.length&&((List.range all.length).all fun i=>ord.contains i)&&nodupB ord &&
 ordOK [] ord &&
 (ix.all fun (i,o)=>(readsOf all o).all fun t=>nearOK cl ix i t) &&
 (ix.all fun (i,o)=>ix.all fun (j,o')=>Nat.beq i j||(match o.dst with|some d=>!isDst d o'|none=>true))
where
 nodupB:List Nat->Bool
  | []=>true
  | x::xs=>!xs.contains x&&nodupB xs
 ordOK:List Nat->List Nat->Bool
  | _,[]=>true
  | pre,i::rest=>(match all[i]? with
    | some o=>o.after.toList.all fun e=>!Region.binds .any e||pre.contains e.on
    | none=>false)&&ordOK (i::pre) rest
def pathOK (cl:List Nat) (all:List Oper) (i:Nat):G->Bool
 | []=>true
 | (t,_,_)::g=>(all.zipIdx.all fun (o,j)=>!isDst t o||Nat.testBit (clN cl i) j)&&pathOK cl all i g
def lateOK (cl:List Nat) (i:Nat):List Nat->Bool
 | []=>true
 | j::rest=>match Nat.testBit (clN cl j) i with
   | true=>lateOK cl i rest
   | false=>false
def nfOK (cl:List Nat) (i:Nat):List Nat->Bool
 | []=>true
 | j::rest=>match Nat.testBit (clN cl i) j with
   | true=>nfOK cl i rest
   | false=>false
def reads (op:Op):Bool:=match op with
 | .load _ _=>true
 | .lookup _ _ _ _=>true
 | _=>false
def calm (r:Regs):Op->Bool
 | .call cl=>(match cl.callee with
   | .builtin .append=>(match opnds r [] cl.args.toList with
     | some (.nilS::_)=>true
     | some (.sl _ (some _) _::_)=>true
     | _=>false)
   | _=>false)
 | _=>false
def nfOKc (cl:List Nat) (all:List Oper) (i:Nat):List Nat->Bool
 | []=>true
 | j::rest=>match Nat.testBit (clN cl i) j with
   | true=>nfOKc cl all i rest
   | false=>(match all[j]? with
     | some o=>(match reads o.op with
       | true=>nfOKc cl all i rest
       | false=>false)
     | none=>false)
def allocLike:Op->Bool
 | .alloc _=>true
 | .box _ _=>true
 | .makeMap _ _=>true
 | .makeSlice _ _ _=>true
 | .buildSlice _ _ _=>true
 | _=>false
def hfree (r:Regs) (g:G):Op->Bool
 | .load _ x=>(match opnd r g x with|some (.iptr _)=>true|_=>false)
 | .lookup _ _ _ _=>false
 | .call cl=>(match cl.callee with|.builtin _=>true|_=>false)
 | _=>true
def entryQ (P:Program) (all:List Oper) (r:Regs) (h:Heap) (K:G->AV->Prop) (o:Oper):Prop:=
 match o.guard with
 | none=>opQ P r [] h (K []) o.op
 | some (j,w)=>match all[j]? with
   | some oj=>(match oj.dst with
     | some tj=>(match lookR r tj with
       | some (gj,.bool b)=>opQ P r (gj++[(tj,b,w)]) h (K (gj++[(tj,b,w)])) o.op
       | _=>False)
     | none=>False)
   | none=>False
def loudD (c:Cfg) (o:Oper):Bool:=
 match isCallV o.op with
 | true=>(match o.dst with|some d=>memN c.lc d|none=>true)
 | false=>loud c o.dst o.op
def frzP (K:Regs->Heap->Prop):List Nat->Regs->Heap->Prop
 | [],r,h=>K r h
 | d::ds,r,h=>match lookR r d with
   | some ([],.optr b 0)=>∃ cs h',Rem b (.vec cs) h h'/\frzP K ds ((d,[],.iptr cs)::r) h'
   | _=>False
def regD (P:Program) (c:Cfg) (n:Nat) (all:List Oper) (cl:List Nat) (K:Regs->Heap->Prop):List Nat->List Nat->Regs->Heap->Prop
 | [],_,r,h=>K r h
 | i::rest,nf,r,h=>match all[i]? with
   | none=>False
   | some o=>match loudD c o with
     | true=>(match o.guard with
       | none=>(match lateOK cl i rest with
         | true=>(match (match allocLike o.op with|true=>true|false=>(match calm r o.op with|true=>nfOKc cl all i nf|false=>nfOK cl i nf)) with
           | true=>opX P c.own c.lc o.dst r h (fun v h'=>setP n o.dst [] v r fun r'=>regD P c n all cl K rest nf r' h') o.op
           | false=>False)
         | false=>False)
       | some _=>False)
     | false=>entryQ P all r h (fun g v=>match pathOK cl all i g with
       | true=>setP n o.dst g v r fun r'=>regD P c n all cl K rest (match hfree r g o.op with|true=>nf|false=>i::nf) r' h
       | false=>False) o
def findOrd:List (Nat × List Nat × List Nat)->Nat->Option (List Nat × List Nat)
 | [],_=>none
 | (i,x)::l,n=>match Nat.beq i n with
   | true=>some x
   | false=>findOrd l n
inductive Ex where
 | normal|exit (id:Nat)|ret|pan (v:Value)
def holdsC (a:Act) (g:G):Prop:=∀ e∈g,a.tmps[e.1]?=some (.bool e.2.2)
structure Conc (n:Nat) (X:Nat->Prop) (g:Gh) (r:Regs) (h:Heap) (a:Act) (w:World):Prop where
 cw:CW X g h w
 regs:∀ t gg v,lookR r t=some (gg,v) ->
  (holdsC a gg->(∀ e∈gg,e.2.1=e.2.2)/\∃ u,a.tmps[t]?=some u/\Rep ⟨g,live X h,w⟩ v u)/\(¬ holdsC a gg->a.tmps[t]?=some undef)
 defers:a.defers=[]
 size:a.tmps.size=n
def Ex.toExit:Ex->Exit
 | .normal=>.normal
 | .exit i=>.exit i
 | .ret=>.ret
 | .pan v=>.panic [{ v:=v,recovered:=false }]
structure Holds (P:Program) (n:Nat) (X:Nat->Prop) (c:Code) (Q:Ex->Regs->Heap->Prop) (r:Regs) (h:Heap):Prop where
 holds:∀ g a w,Conc n X g r h a w->c.wp P (fun e a' w'=>∃ ex g' r' h',e=Ex.toExit ex/\Q ex r' h'/\Conc n X g' r' h' a' w'/\Step X g h w g' h' w') a w
def cw (P:Program) (c:Cfg) (n:Nat) (X:Nat->Prop):Code->(Ex->Regs->Heap->Prop)->Regs->Heap->Prop
 | .skip,Q,r,h=>Q .normal r h
 | .region id ops draw,Q,r,h=>(match draw with
   | false=>regP P c n ops.toList (Q .normal) ops.toList r h
   | true=>(match findOrd c.ords id with
     | some (ord,fz)=>drawOK ops.toList ord=true /\
        regD P c n ops.toList (clos ops.toList []) (fun r' h'=>frzP (fun r'' h''=>normK r'' (fun r3=>Q .normal r3 h'') c.keep) fz r' h') ord [] r h
     | none=>Holds P n X (.region id ops true) Q r h))
 | .seq a b,Q,r,h=>cw P c n X a (fun e r' h'=>match e with
   | .normal=>cw P c n X b Q r' h'
   | e=>Q e r' h') r h
 | .cond x a b,Q,r,h=>(match opnd r [] x with
   | some (.bool t)=>(t=true->cw P c n X a Q r h)/\(t=false->cw P c n X b Q r h)
   | _=>False)
 | .block id a,Q,r,h=>cw P c n X a (fun e r' h'=>match e with
   | .exit i=>(match Nat.beq i id with
     | true=>Q .normal r' h'
     | false=>Q (.exit i) r' h')
   | e=>Q e r' h') r h
 | .loop a,Q,r,h=>Holds P n X (.loop a) Q r h
 | .exit i,Q,r,h=>Q (.exit i) r h
 | .ret,Q,r,h=>Q .ret r h
 | _,_,_,_=>False
end Go.Abs
