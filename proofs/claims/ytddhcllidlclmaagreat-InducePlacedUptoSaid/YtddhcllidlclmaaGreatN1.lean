/- What is proved: small laws for the walks of this seat, and contracts of its functions. No condition but those each theorem names. -/
import Derived.Calls
import Derived.Orders
import Derived.Laws.Sem
import GoSem.Claims
import GoSem.ClaimData
import Derived.Laws.Cover4
import Derived.ArgAppend
import Derived.Laws.Rows
import Derived.Laws.MakeOwn
import Derived.Laws.Entries
import Derived.Laws.Cells
import Derived.Laws.Strings
import Derived.IntWalk
import Derived.ChangeKeysEq
import Derived.Laws.StructEq
import Derived.Laws.Tables
import Derived.Laws.Slices
import Derived.Laws.Strings2
import Derived.Great.BuildSlice
/-
 The abstract layer,part A: abstract values,own objects,and what it is that a value in memory stands for an abstract one.
-/
namespace Go.Abs
open Go
inductive AV where
 | unit
 | junk
 | bool (b:Bool)
 | int (k:IntKind) (n:Int)
 | str (s:List UInt8)
 | nilS
 | sl (k:Nat) (t:Option Nat) (xs:List (List AV))
 | slz (k:Nat)
 | nilO
 | osl (b:Nat) (off len k:Nat)
 | oslc (b:Nat) (off len cap k:Nat)
 | iptr (cs:List AV)
 | optr (b:Nat) (off:Nat)
 | nilP
 | omap (b:Nat)
 | nilM
 | fn (f:FuncId) (caps:List AV)
 | nilF
 | agg (cs:List AV)
 | tup (vs:List AV)
 | oit (b:Nat)
inductive Ob where
 | vec (cs:List AV)
 | tok
 | map (es:List (AV × AV))
 | rmap (es:List (AV × AV)) (bs:List Nat) (cl:Nat)
 | iter (m cl:Nat) (seen:List Nat)
 | siter (s:List UInt8) (pos:Nat)
abbrev Heap:=List (Nat × Ob)
def keys (h:Heap):List Nat:=h.map (·.1)
def cellsV:AV→Option (List AV)
 | .agg cs=>some cs
 | .tup _=>none
 | .unit=>none
 | v=>some [v]
def LMAX:Nat:=140737488355328
def CAPM:Nat:=9223372036854775807
structure Gh where
 pl:Nat→Option Addr
 ow:Nat→Option (Nat × Nat)
structure Cx where
 g:Gh
 live:Nat→Prop
 w:World
def Cx.fr (c:Cx) (b o:Nat):Prop:=∀ k s,c.g.ow b=some (k,s)→c.live k→o<s
def World.blockHas (w:World) (b n:Nat):Prop:=∃ cs t f,w.heap[b]?=some (.cells cs t f)∧n≤cs.size
mutual
def Rep (c:Cx):AV→Value→Prop
 | .unit,_=>True
 | .junk,v=>v.oneCell'=true
 | .bool b,v=>v=.bool b
 | .int k n,v=>v=.int k n∧k.has n
 | .str s,v=>∃ b:ByteArray,v=.string b∧b.data.toList=s∧s.length≤LMAX
 | .nilS,v=>v=.slice none 0 0
 | .sl k t xs,v=>∃ base cap,v=.slice base xs.length cap∧xs.length≤cap∧xs.length≤LMAX∧0<k ∧
    (base=none→cap=0) ∧
    (∀ a,base=some a→xs≠[]→a.spot=none) ∧
    (∀ a,base=some a→RepEs c k xs a.block a.off) ∧
    (∀ q,t=some q→cap=xs.length∨∃ a,base=some a∧a.spot=none∧c.g.pl q=some ⟨a.block,a.off+xs.length*k,none⟩∧World.blockHas c.w a.block (a.off+cap*k))
 | .slz k,v=>∃ a cap,v=.slice (some a) 0 cap∧0<k
 | .nilO,v=>v=.slice none 0 0
 | .osl b off len k,v=>∃ p cap o',c.g.pl b=some p∧p.spot=none∧v=.slice (some ⟨p.block,p.off+o',none⟩) len cap∧len≤cap∧len≤LMAX∧0<k∧World.blockHas c.w p.block (p.off+o'+cap*k)∧(0<cap→o'=off)∧cap≤CAPM
 | .oslc b off len cap k,v=>∃ p,c.g.pl b=some p∧p.spot=none∧v=.slice (some ⟨p.block,p.off+off,none⟩) len cap∧len≤cap∧len≤LMAX∧0<k∧World.blockHas c.w p.block (p.off+off+cap*k)∧cap≤CAPM
 | .iptr cs,v=>∃ b o,v=.pointer (some ⟨b,o,none⟩)∧RepCs c cs b o
 | .optr b off,v=>∃ p,c.g.pl b=some p∧p.spot=none∧v=.pointer (some ⟨p.block,p.off+off,none⟩)
 | .nilP,v=>v=.pointer none
 | .omap b,v=>∃ p,c.g.pl b=some p∧v=.map (some p.block)
 | .nilM,v=>v=.map none
 | .fn f caps,v=>∃ us,v=.func (.func f) #[] us∧RepVs c caps us.toList
 | .nilF,v=>v=.nilFunc
 | .agg cs,v=>∃ us,v=.agg us∧(∀ u∈us,u.oneCell'=true)∧RepVs c cs us.toList
 | .tup vs,v=>∃ us,v=.tuple us∧RepVs c vs us.toList
 | .oit b,v=>∃ p,c.g.pl b=some p∧v=.pointer (some ⟨p.block,0,none⟩)
def RepVs (c:Cx):List AV→List Value→Prop
 | [],us=>us=[]
 | x::xs,us=>∃ u r,us=u::r∧Rep c x u∧RepVs c xs r
def RepCs (c:Cx):List AV→Nat→Nat→Prop
 | [],_,_=>True
 | x::xs,b,o=>(∃ u,c.w.cell? ⟨b,o,none⟩=some u∧u.oneCell'=true∧c.fr b o∧Rep c x u)∧RepCs c xs b (o+1)
def RepEs (c:Cx) (k:Nat):List (List AV)→Nat→Nat→Prop
 | [],_,_=>True
 | x::xs,b,o=>(x.length=k∧RepCs c x b o)∧RepEs c k xs b (o+k)
end
structure Cx.Le (c c':Cx):Prop where
 pl:∀ k p,c.g.pl k=some p→c'.g.pl k=some p
 cell:∀ b o u,c.w.cell? ⟨b,o,none⟩=some u→c.fr b o→c'.w.cell? ⟨b,o,none⟩=some u∧c'.fr b o
 has:∀ b n,World.blockHas c.w b n→World.blockHas c'.w b n
theorem Cx.Le.refl (c:Cx):Cx.Le c c:=⟨fun _ _ h=>h,fun _ _ _ h h'=>⟨h,h'⟩,fun _ _ h=>h⟩
theorem Cx.Le.trans {a b c:Cx} (h:Cx.Le a b) (k:Cx.Le b c):Cx.Le a c:=
 ⟨fun x p e=>k.pl x p (h.pl x p e),fun x o u e f=>let ⟨e',f'⟩:=h.cell x o u e f;k.cell x o u e' f',fun x n e=>k.has x n (h.has x n e)⟩
mutual
theorem Rep.mono {c c':Cx} (hc:Cx.Le c c'):∀ (x:AV) (v:Value),Rep c x v→Rep c' x v
 | .unit,_,_=>by simp [Rep]
 | .junk,v,h=>by simpa [Rep] using h
 | .bool b,v,h=>by simpa [Rep] using h
 | .int k n,v,h=>by simpa [Rep] using h
 | .str s,v,h=>by simpa [Rep] using h
 | .nilS,v,h=>by simpa [Rep] using h
 | .nilP,v,h=>by simpa [Rep] using h
 | .slz k,v,h=>by simpa [Rep] using h
 | .nilO,v,h=>by simpa [Rep] using h
 | .nilM,v,h=>by simpa [Rep] using h
 | .nilF,v,h=>by simpa [Rep] using h
 | .sl k t xs,v,h=>by
   simp only [Rep] at h ⊢
   obtain ⟨base,cap,hv,h1,h2,h3,h4,h5,h6,h7⟩:=h
   refine ⟨base,cap,hv,h1,h2,h3,h4,h5,fun a ha=>RepEs.mono hc k xs _ _ (h6 a ha),fun q hq=>?_⟩
   rcases h7 q hq with h7|⟨a,ha,hs,hp,hh⟩
   ·exact .inl h7
   ·exact .inr ⟨a,ha,hs,hc.pl _ _ hp,hc.has _ _ hh⟩
 | .osl b off len k,v,h=>by
   simp only [Rep] at h ⊢
   obtain ⟨p,cap,o',hp,hs,hv,h1,h2,h3,h4,h5⟩:=h
   exact ⟨p,cap,o',hc.pl _ _ hp,hs,hv,h1,h2,h3,hc.has _ _ h4,h5⟩
 | .oslc b off len cap k,v,h=>by
   simp only [Rep] at h ⊢
   obtain ⟨p,hp,hs,hv,h1,h2,h3,h4,h5⟩:=h
   exact ⟨p,hc.pl _ _ hp,hs,hv,h1,h2,h3,hc.has _ _ h4,h5⟩
 | .iptr cs,v,h=>by
   simp only [Rep] at h ⊢
   obtain ⟨b,o,hv,hr⟩:=h
   exact ⟨b,o,hv,RepCs.mono hc cs _ _ hr⟩
 | .optr b off,v,h=>by
   simp only [Rep] at h ⊢
   obtain ⟨p,hp,r⟩:=h
   exact ⟨p,hc.pl _ _ hp,r⟩
 | .omap b,v,h=>by
   simp only [Rep] at h ⊢
   obtain ⟨p,hp,r⟩:=h
   exact ⟨p,hc.pl _ _ hp,r⟩
 | .oit b,v,h=>by
   simp only [Rep] at h ⊢
   obtain ⟨p,hp,r⟩:=h
   exact ⟨p,hc.pl _ _ hp,r⟩
 | .fn f caps,v,h=>by
   simp only [Rep] at h ⊢
   obtain ⟨us,hv,hr⟩:=h
   exact ⟨us,hv,RepVs.mono hc caps _ hr⟩
 | .agg cs,v,h=>by
   simp only [Rep] at h ⊢
   obtain ⟨us,hv,h1,hr⟩:=h
   exact ⟨us,hv,h1,RepVs.mono hc cs _ hr⟩
 | .tup cs,v,h=>by
   simp only [Rep] at h ⊢
   obtain ⟨us,hv,hr⟩:=h
   exact ⟨us,hv,RepVs.mono hc cs _ hr⟩
theorem RepVs.mono {c c':Cx} (hc:Cx.Le c c'):∀ (xs:List AV) (us:List Value),RepVs c xs us→RepVs c' xs us
 | [],us,h=>by simpa [RepVs] using h
 | x::xs,us,h=>by
   simp only [RepVs] at h ⊢
   obtain ⟨u,r,hu,h1,h2⟩:=h
   exact ⟨u,r,hu,Rep.mono hc x u h1,RepVs.mono hc xs r h2⟩
theorem RepCs.mono {c c':Cx} (hc:Cx.Le c c'):∀ (xs:List AV) (b o:Nat),RepCs c xs b o→RepCs c' xs b o
 | [],b,o,h=>by simp [RepCs]
 | x::xs,b,o,h=>by
   simp only [RepCs] at h ⊢
   obtain ⟨⟨u,h1,h2,h3,h4⟩,h5⟩:=h
   obtain ⟨e,f⟩:=hc.cell _ _ _ h1 h3
   exact ⟨⟨u,e,h2,f,Rep.mono hc x u h4⟩,RepCs.mono hc xs _ _ h5⟩
theorem RepEs.mono {c c':Cx} (hc:Cx.Le c c') (k:Nat):∀ (xs:List (List AV)) (b o:Nat),RepEs c k xs b o→RepEs c' k xs b o
 | [],b,o,h=>by simp [RepEs]
 | x::xs,b,o,h=>by
   simp only [RepEs] at h ⊢
   exact ⟨⟨h.1.1,RepCs.mono hc x _ _ h.1.2⟩,RepEs.mono hc k xs _ _ h.2⟩
end
theorem Rep.oslE {c:Cx} {b off len k:Nat} {v:Value} (h:Rep c (.osl b off len k) v) (hl:0<len):∃ p cap,c.g.pl b=some p∧p.spot=none∧v=.slice (some ⟨p.block,p.off+off,none⟩) len cap∧len≤cap∧len≤LMAX∧0<k ∧
  World.blockHas c.w p.block (p.off+off+cap*k)∧cap≤CAPM:=by
 simp only [Rep] at h
 obtain ⟨p,cap,o',h1,h2,h3,h4,h5,h6,h7,h8,h9⟩:=h
 have:=h8 (by omega)
 subst this
 exact ⟨p,cap,h1,h2,h3,h4,h5,h6,h7,h9⟩
end Go.Abs
/-
 The abstract layer,part B: own objects,the abstract state,and the evaluator: a predicate transformer over a function's code,made to be reduced.
-/
set_option linter.unusedVariables false
namespace Go.Abs
open Go
def EntsRep (c:Cx):List (AV × AV)→List MapEntry→Prop
 | [],es=>es=[]
 | x::xs,es=>∃ e r,es=e::r∧Rep c x.1 e.key∧Rep c x.2 e.val∧EntsRep c xs r
def ObjRep (c:Cx) (k:Nat):Ob→Prop
 | .vec cs=>∃ p cc t,c.g.pl k=some p∧p.spot=none∧c.g.ow p.block=some (k,0)∧c.w.heap[p.block]?=some (.cells cc t (0,0)) ∧
    p.off+cs.length≤cc.size∧∀ i x,cs[i]?=some x→∃ u,cc[p.off+i]?=some u∧u.oneCell'=true∧Rep c x u
 | .tok=>∀ p,c.g.pl k=some p→p.spot=none∧c.g.ow p.block=some (k,p.off)∧∃ cc t,c.w.heap[p.block]?=some (.cells cc t (0,0))
 | .map es=>∃ p cl ents,c.g.pl k=some p∧c.g.ow p.block=some (k,0)∧c.w.heap[p.block]?=some (.map ents cl)∧EntsRep c es ents.toList ∧
    (∀ x∈ents.toList,x.born<cl)∧(ents.toList.map (·.born)).Nodup
 | .rmap es bs cl=>∃ p ents,c.g.pl k=some p∧c.g.ow p.block=some (k,0)∧c.w.heap[p.block]?=some (.map ents cl)∧EntsRep c es ents.toList ∧
    (∀ x∈ents.toList,x.born<cl)∧(ents.toList.map (·.born)).Nodup∧ents.toList.map (·.born)=bs
 | .iter m cl seen=>∃ p pm sa,c.g.pl k=some p∧c.g.ow p.block=some (k,0)∧c.w.heap[p.block]?=some (.mapIter (some pm.block) cl sa cl)∧c.g.pl m=some pm∧sa.toList=seen
 | .siter s pos=>∃ p b,c.g.pl k=some p∧c.g.ow p.block=some (k,0)∧c.w.heap[p.block]?=some (.stringIter b pos)∧b.data.toList=s∧s.length≤LMAX
def live (X:Nat→Prop) (h:Heap):Nat→Prop:=fun k=>X k∨k∈keys h
structure CW (X:Nat→Prop) (g:Gh) (h:Heap) (w:World):Prop where
 own:∀ b k s,g.ow b=some (k,s)→b<w.heap.size
 bound:∃ N,∀ k,(X k∨k∈keys h∨g.pl k≠none∨∃ b s,g.ow b=some (k,s))→k<N
 nodup:(keys h).Nodup
 sep:∀ k,k∈keys h→¬ X k
 obj:∀ k o,(k,o)∈h→ObjRep ⟨g,live X h,w⟩ k o
structure Step (X:Nat→Prop) (g:Gh) (h:Heap) (w:World) (g':Gh) (h':Heap) (w':World):Prop where
 os:w'.os=w.os
 say:w'.tape=w.tape∧w.drawn≤w'.drawn
 output:w'.output=w.output
 size:w.heap.size≤w'.heap.size
 pl:∀ k p,g.pl k=some p→g'.pl k=some p
 xow:∀ b k s,g.ow b=some (k,s)→X k→g'.ow b=some (k,s)
 xow':∀ b k s,g'.ow b=some (k,s)→X k→g.ow b=some (k,s)
 xpl:∀ k,X k→g.pl k=none→g'.pl k=none
 old:∀ b,b<w.heap.size→(∀ k s,g.ow b=some (k,s)→k ∉ keys h)→w'.heap[b]?=w.heap[b]?∧∀ k s,g'.ow b=some (k,s)→k ∉ keys h'
 mine:∀ b k s,g.ow b=some (k,s)→k∈keys h→∀ cc t f,w.heap[b]?=some (.cells cc t f) →
  ∃ cc',w'.heap[b]?=some (.cells cc' t f)∧cc'.size=cc.size∧∀ o,o<s→cc'[o]?=cc[o]?
 minefree:∀ b k s,g.ow b=some (k,s)→k∈keys h→∀ k' s',g'.ow b=some (k',s')→live X h' k'→s≤s'
theorem Step.refl (X:Nat→Prop) (g:Gh) (h:Heap) (w:World):Step X g h w g h w:=
 ⟨rfl,⟨rfl,Nat.le_refl _⟩,rfl,Nat.le_refl _,fun _ _ e=>e,fun _ _ _ e _=>e,fun _ _ _ e _=>e,fun _ _ e=>e,fun _ _ e=>⟨rfl,e⟩,
   fun _ _ _ _ _ cc _ _ e=>⟨cc,e,rfl,fun _ _=>rfl⟩,fun _ _ _ e _ _ _ e' _=>by rw [e] at e';cases e';exact Nat.le_refl _⟩
theorem Step.trans {X:Nat→Prop} {g g1 g2:Gh} {h h1 h2:Heap} {w w1 w2:World} (own:∀ b k s,g.ow b=some (k,s)→b<w.heap.size)
  (s1:Step X g h w g1 h1 w1) (s2:Step X g1 h1 w1 g2 h2 w2):Step X g h w g2 h2 w2:=by
 refine ⟨s2.os.trans s1.os,⟨s2.say.1.trans s1.say.1,Nat.le_trans s1.say.2 s2.say.2⟩,s2.output.trans s1.output,Nat.le_trans s1.size s2.size,fun k p e=>s2.pl k p (s1.pl k p e),
  fun b k s e x=>s2.xow b k s (s1.xow b k s e x) x,fun b k s e x=>s1.xow' b k s (s2.xow' b k s e x) x,fun k x e=>s2.xpl k x (s1.xpl k x e),?_,?_,?_⟩
 ·intro b hb hn
  obtain ⟨e1,n1⟩:=s1.old b hb hn
  obtain ⟨e2,n2⟩:=s2.old b (Nat.lt_of_lt_of_le hb s1.size) n1
  exact ⟨e2.trans e1,n2⟩
 ·intro b k s ho hk cc t f hcc
  obtain ⟨cc1,e1,z1,p1⟩:=s1.mine b k s ho hk cc t f hcc
  have hb:b<w1.heap.size:=Nat.lt_of_lt_of_le (own b k s ho) s1.size
  by_cases hm:∃ k1 s1',g1.ow b=some (k1,s1')∧k1∈keys h1
  ·obtain ⟨k1,s1',ho1,hk1⟩:=hm
   obtain ⟨cc2,e2,z2,p2⟩:=s2.mine b k1 s1' ho1 hk1 cc1 t f e1
   have hle:=s1.minefree b k s ho hk k1 s1' ho1 (.inr hk1)
   exact ⟨cc2,e2,z2.trans z1,fun o h=>(p2 o (by omega)).trans (p1 o h)⟩
  ·obtain ⟨e2,_⟩:=s2.old b hb (fun k1 s1' e hk=>hm ⟨k1,s1',e,hk⟩)
   exact ⟨cc1,e2.trans e1,z1,p1⟩
 ·intro b k s ho hk k2 s2' ho2 hl2
  have hb:b<w1.heap.size:=Nat.lt_of_lt_of_le (own b k s ho) s1.size
  by_cases hm:∃ k1 s1',g1.ow b=some (k1,s1')∧k1∈keys h1
  ·obtain ⟨k1,s1',ho1,hk1⟩:=hm
   have h1:=s1.minefree b k s ho hk k1 s1' ho1 (.inr hk1)
   have h2:=s2.minefree b k1 s1' ho1 hk1 k2 s2' ho2 hl2
   omega
  ·obtain ⟨_,n2⟩:=s2.old b hb (fun k1 s1' e hk=>hm ⟨k1,s1',e,hk⟩)
   rcases hl2 with hx|hk2
   ·exact s1.minefree b k s ho hk k2 s2' (s2.xow' b k2 s2' ho2 hx) (.inl hx)
   ·exact absurd hk2 (n2 k2 s2' ho2)
theorem Step.le {X:Nat→Prop} {g g':Gh} {h h':Heap} {w w':World} (s:Step X g h w g' h' w') :
  Cx.Le ⟨g,live X h,w⟩ ⟨g',live X h',w'⟩:=by
 refine ⟨s.pl,?_,?_⟩
 ·intro b o u hu hf
  simp only [World.cell?] at hu
  have hb:b<w.heap.size:=by
   cases hh:w.heap[b]? with
   | none=>simp [hh] at hu
   | some x=>exact (Array.getElem?_eq_some_iff.1 hh).1
  by_cases hm:∃ k s',g.ow b=some (k,s')∧k∈keys h
  ·obtain ⟨k,s',ho,hk⟩:=hm
   have hlt:o<s':=hf k s' ho (.inr hk)
   cases hh:w.heap[b]? with
   | none=>simp [hh] at hu
   | some x=>
     cases x with
     | cells cc t f=>
       obtain ⟨cc',e,z,p⟩:=s.mine b k s' ho hk cc t f hh
       refine ⟨?_,fun k' s'' ho' hl'=>Nat.lt_of_lt_of_le hlt (s.minefree b k s' ho hk k' s'' ho' hl')⟩
       simp only [World.cell?,e]
       simp only [hh] at hu
       simpa [p o hlt] using hu
     | _=>simp [hh] at hu
  ·obtain ⟨e,n⟩:=s.old b hb (fun k s' ho hk=>hm ⟨k,s',ho,hk⟩)
   refine ⟨by simp only [World.cell?,e];exact hu,fun k' s'' ho' hl'=>?_⟩
   rcases hl' with hx|hk'
   ·exact hf k' s'' (s.xow' b k' s'' ho' hx) (.inl hx)
   ·exact absurd hk' (n k' s'' ho')
 ·rintro b n ⟨cc,t,f,hcc,hn⟩
  have hb:b<w.heap.size:=(Array.getElem?_eq_some_iff.1 hcc).1
  by_cases hm:∃ k s',g.ow b=some (k,s')∧k∈keys h
  ·obtain ⟨k,s',ho,hk⟩:=hm
   obtain ⟨cc',e,z,_⟩:=s.mine b k s' ho hk cc t f hcc
   exact ⟨cc',t,f,e,by omega⟩
  ·obtain ⟨e,_⟩:=s.old b hb (fun k s' ho hk=>hm ⟨k,s',ho,hk⟩)
   exact ⟨cc,t,f,e.trans hcc,hn⟩
abbrev G:=List (Nat × Bool × Bool)
abbrev Regs:=List (Nat × G × AV)
def lookR:Regs→Nat→Option (G × AV)
 | [],_=>none
 | (t,x)::r,n=>match Nat.beq t n with
   | true=>some x
   | false=>lookR r n
def eqB:Bool→Bool→Bool
 | true,true=>true
 | false,false=>true
 | _,_=>false
def memG:G→Nat→Bool→Bool
 | [],_,_=>false
 | (t,_,w)::r,n,w'=>match Nat.beq t n with
   | true=>(match eqB w w' with
     | true=>true
     | false=>memG r n w')
   | false=>memG r n w'
def subG:G→G→Bool
 | [],_=>true
 | (t,_,w)::r,g=>match memG g t w with
   | true=>subG r g
   | false=>false
def gP:G→Prop→Prop
 | [],p=>p
 | (_,b,w)::r,p=>b=w→gP r p
def okI (k:IntKind) (n:Int):Bool:=
 match k,n with
 | .i64,n=>Nat.ble n.natAbs 4611686018427387904
 | .i32,n=>Nat.ble n.natAbs 1073741824
 | .u8,.ofNat n=>Nat.ble n 255
 | .u32,.ofNat n=>Nat.ble n 4294967295
 | .u64,.ofNat n=>Nat.ble n 9223372036854775807
 | _,_=>false
def ofVal:Value→Option AV
 | .bool b=>some (.bool b)
 | .int k n=>(match okI k n with|true=>some (.int k n)|false=>none)
 | .string s=>(match Nat.ble s.data.toList.length 65536 with|true=>some (.str s.data.toList)|false=>none)
 | .pointer none=>some .nilP
 | .slice none 0 0=>some .nilS
 | .map none=>some .nilM
 | .nilFunc=>some .nilF
 | _=>none
def ofVals:List Value→Option (List AV)
 | []=>some []
 | v::r=>match ofVal v with
   | some a=>(match ofVals r with
     | some b=>some (a::b)
     | none=>none)
   | none=>none
def zeroCs (P:Program) (t:TypeId):Option (List AV):=
 match P.info? t with
 | some i=>match i.zero with
   | some v=>ofVals v.cells.toList
   | none=>none
 | none=>none
def aggT (P:Program) (t:TypeId):Option Bool:=
 match P.underlying t with
 | some (.struct _)=>some true
 | some (.array _ _)=>some true
 | some _=>some false
 | none=>none
def opnd (r:Regs) (g:G):Operand→Option AV
 | .tmp t=>match lookR r t with
   | some (g',v)=>match subG g' g with
     | true=>some v
     | false=>none
   | none=>none
 | .const v=>ofVal v
 | .func f=>some (.fn f [])
 | .global _=>none
def opnds (r:Regs) (g:G):List Operand→Option (List AV)
 | []=>some []
 | x::xs=>match opnd r g x with
   | some v=>(match opnds r g xs with
     | some vs=>some (v::vs)
     | none=>none)
   | none=>none
def takeN:Nat→List AV→Option (List AV)
 | 0,_=>some []
 | _+1,[]=>none
 | n+1,c::cs=>match takeN n cs with
   | some l=>some (c::l)
   | none=>none
def dropN:Nat→List AV→Option (List AV)
 | 0,cs=>some cs
 | _+1,[]=>none
 | n+1,_::cs=>dropN n cs
def arith (g:G) (k:IntKind) (n:Int) (K:AV→Prop):Prop:=
 match k with
 | .i64=>gP g (-9223372036854775808≤n∧n≤9223372036854775807)∧K (.int .i64 n)
 | .i32=>gP g (-2147483648≤n∧n≤2147483647)∧K (.int .i32 n)
 | k=>K (.int k (k.wrap n))
def sameK:IntKind→IntKind→Bool
 | .i8,.i8=>true
 | .i16,.i16=>true
 | .i32,.i32=>true
 | .i64,.i64=>true
 | .u8,.u8=>true
 | .u16,.u16=>true
 | .u32,.u32=>true
 | .u64,.u64=>true
 | _,_=>false
def eqS (P:Program) (t:TypeId) (x y:AV):Option Bool:=
 match P.underlying t,x,y with
 | some (.int _),.int k a,.int k' b=>(match sameK k k' with|true=>some (decide (a=b))|false=>none)
 | some .string,.str a,.str b=>some (decide (a=b))
 | some .bool,.bool a,.bool b=>some (decide (a=b))
 | _,_,_=>none
def eqF (P:Program):Nat→List Field→List AV→List AV→Option Bool
 | _,[],[],[]=>some true
 | i,f::fs,x::xs,y::ys=>match Nat.beq f.offset i with
   | true=>(match eqS P f.type x y with
     | some b=>(match eqF P (i+1) fs xs ys with
       | some c=>some (b&&c)
       | none=>none)
     | none=>none)
   | false=>none
 | _,_,_,_=>none
def eqA (P:Program) (e:TypeId):List AV→List AV→Option Bool
 | [],[]=>some true
 | x::xs,y::ys=>match eqS P e x y with
   | some b=>(match eqA P e xs ys with
     | some c=>some (b&&c)
     | none=>none)
   | none=>none
 | _,_=>none
def eqV (P:Program) (t:TypeId) (x y:AV):Option Bool:=
 match P.underlying t with
 | some (.struct fs)=>(match x,y with
   | .agg xs,.agg ys=>eqF P 0 fs.toList xs ys
   | _,_=>none)
 | some (.array n e)=>(match x,y with
   | .agg xs,.agg ys=>(match Nat.beq xs.length n,Nat.beq (P.cellsOf e) 1,P.info? e with
     | true,true,some _=>eqA P e xs ys
     | _,_,_=>none)
   | _,_=>none)
 | some _=>eqS P t x y
 | none=>none
def plainT (P:Program) (t:TypeId):Bool:=
 match P.underlying t with
 | some (.struct fs)=>fs.toList.all (fun f=>!(f.name == "_"))&&!P.stoodInHeld t&&!P.eqGuardType P.depth t
 | some (.array _ _)=>!P.eqGuardType P.depth t
 | some _=>true
 | none=>false
def eqK (k k':IntKind) (p:Prop):Prop:=
 match k,k' with
 | .i8,.i8=>p
 | .i16,.i16=>p
 | .i32,.i32=>p
 | .i64,.i64=>p
 | .u8,.u8=>p
 | .u16,.u16=>p
 | .u32,.u32=>p
 | .u64,.u64=>p
 | _,_=>False
theorem eqK_iff {k k':IntKind} {p:Prop}:eqK k k' p↔(k=k'∧p):=by
 cases k<;>cases k'<;>simp [eqK]
def binP (P:Program) (g:G) (t:TypeId) (op:BinOp) (x y:AV) (K:AV→Prop):Prop:=
 match op,x,y with
 | .add,.int k a,.int k' b=>eqK k k' (arith g k (a+b) K)
 | .sub,.int k a,.int k' b=>eqK k k' (arith g k (a - b) K)
 | .mul,.int k a,.int k' b=>eqK k k' (arith g k (a*b) K)
 | .quo,.int k a,.int k' b=>eqK k k' (gP g (b≠0)∧arith g k (Int.tdiv a b) K)
 | .rem,.int k a,.int k' b=>eqK k k' (gP g (b≠0∧k.has (Int.tmod a b))∧K (.int k (Int.tmod a b)))
 | .lss,.int k a,.int k' b=>eqK k k' (K (.bool (decide (a<b))))
 | .leq,.int k a,.int k' b=>eqK k k' (K (.bool (decide (a≤b))))
 | .gtr,.int k a,.int k' b=>eqK k k' (K (.bool (decide (b<a))))
 | .geq,.int k a,.int k' b=>eqK k k' (K (.bool (decide (b≤a))))
 | .eql,.int k a,.int k' b=>eqK k k' (K (.bool (decide (a=b))))
 | .neq,.int k a,.int k' b=>eqK k k' (K (.bool (!decide (a=b))))
 | .eql,.bool a,.bool b=>(match P.underlying t with|some .bool=>K (.bool (decide (a=b)))|_=>False)
 | .neq,.bool a,.bool b=>(match P.underlying t with|some .bool=>K (.bool (!decide (a=b)))|_=>False)
 | .eql,.str a,.str b=>K (.bool (decide (a=b)))
 | .neq,.str a,.str b=>K (.bool (!decide (a=b)))
 | .lss,.str a,.str b=>K (.bool (Op.bytesLess a b))
 | .add,.str a,.str b=>gP g ((a++b).length≤LMAX)∧K (.str (a++b))
 | .eql,.agg xs,.agg ys=>(match eqV P t (.agg xs) (.agg ys) with|some b=>plainT P t=true∧K (.bool b)|none=>False)
 | .neq,.agg xs,.agg ys=>(match eqV P t (.agg xs) (.agg ys) with|some b=>plainT P t=true∧K (.bool (!b))|none=>False)
 | .eql,.nilS,.nilS=>(match P.underlying t with|some (.slice _)=>K (.bool true)|_=>False)
 | .neq,.nilS,.nilS=>(match P.underlying t with|some (.slice _)=>K (.bool false)|_=>False)
 | .eql,.slz _,.nilS=>(match P.underlying t with|some (.slice _)=>K (.bool false)|_=>False)
 | .neq,.slz _,.nilS=>(match P.underlying t with|some (.slice _)=>K (.bool true)|_=>False)
 | .eql,.sl _ _ xs,.nilS=>(match P.underlying t with|some (.slice _)=>gP g (xs≠[])∧K (.bool false)|_=>False)
 | .neq,.sl _ _ xs,.nilS=>(match P.underlying t with|some (.slice _)=>gP g (xs≠[])∧K (.bool true)|_=>False)
 | .gtr,.str a,.str b=>K (.bool (!Op.bytesLess a b&&!decide (a=b)))
 | .eql,.osl _ _ _ _,.nilS=>(match P.underlying t with|some (.slice _)=>K (.bool false)|_=>False)
 | .eql,.iptr _,.nilP=>(match P.underlying t with|some (.pointer _)=>K (.bool false)|_=>False)
 | .neq,.iptr _,.nilP=>(match P.underlying t with|some (.pointer _)=>K (.bool true)|_=>False)
 | .eql,.nilP,.nilP=>(match P.underlying t with|some (.pointer _)=>K (.bool true)|_=>False)
 | .neq,.nilP,.nilP=>(match P.underlying t with|some (.pointer _)=>K (.bool false)|_=>False)
 | .shr,.int k a,.int k' (.ofNat 1)=>gP g ((k=.u64∧k'=.u64)∧0≤a∧a<9223372036854775808)∧K (.int .u64 (a / 2))
 | .shr,.int k a,.int k' b=>gP g ((k=.u64∧k'=.u64)∧(0≤a∧a<4294967296)∧b=32)∧K (.int .u64 0)
 | .and,.int k a,.int k' b=>gP g ((k=.u64∧k'=.u64)∧(0≤a∧a<4294967296)∧b=4294967295)∧K (.int .u64 a)
 | _,_,_=>False
def mget (P:Program) (t:TypeId) (k:AV):List (AV × AV)→Option (Option AV)
 | []=>some none
 | (x,v)::es=>match eqV P t k x with
   | some true=>some (some v)
   | some false=>mget P t k es
   | none=>none
def mset (P:Program) (t:TypeId) (k v:AV):List (AV × AV)→List (AV × AV)
 | []=>[(k,v)]
 | (x,u)::es=>match eqV P t k x with
   | some true=>(k,v)::es
   | _=>(x,u)::mset P t k v es
def keyFits (P:Program) (t:TypeId) (k:AV):Prop:=plainT P t=true∧eqV P t k k=some true
def zeroV (P:Program) (t:TypeId):Option AV:=
 match P.info? t with
 | some i=>(match i.zero with
   | some (.agg us)=>(match ofVals us.toList with
     | some l=>some (.agg l)
     | none=>none)
   | some v=>ofVal v
   | none=>none)
 | none=>none
def mlook (P:Program) (t:TypeId) (k:AV) (es:List (AV × AV)) (z:AV):Option (AV × Bool):=
 match mget P t k es with
 | some (some v)=>some (v,true)
 | some none=>some (z,false)
 | none=>none
def okTup (ok:Bool) (v:AV) (f:Bool):AV:=
 match ok with
 | true=>.tup [v,.bool f]
 | false=>v
structure Cfg where
 keep:List Nat
 own:List Nat
 frz:List Nat
 spl:List Nat
 ords:List (Nat × List Nat × List Nat):=[]
 lc:List Nat:=[]
def memN:List Nat→Nat→Bool
 | [],_=>false
 | x::r,n=>match Nat.beq x n with
   | true=>true
   | false=>memN r n
inductive Upd (b:Nat) (o:Ob) (b':Nat) (o':Ob):Heap→Heap→Prop
 | here (h:Heap):Upd b o b' o' ((b,o)::h) ((b',o')::h)
 | there {x:Nat × Ob} {h h':Heap}:Upd b o b' o' h h'→Upd b o b' o' (x::h) (x::h')
inductive Rem (b:Nat) (o:Ob):Heap→Heap→Prop
 | here (h:Heap):Rem b o ((b,o)::h) h
 | there {x:Nat × Ob} {h h':Heap}:Rem b o h h'→Rem b o (x::h) (x::h')
def Callable (P:Program) (f:FuncId):Prop:=∃ fn c,P.funcs[f]?=some fn∧fn.body=some c∧(fn.name == "runtime.NumGoroutine")=false
def CallsE (P:Program) (f:FuncId) (us:Array Value) (w:World) (R:Ending→World→Prop):Prop:=
 (Callable P f∧Calls P f us w R)∨∃ v w',(callFunc f us).run P w=.ok (.value v) w'∧R (.returned v) w'
theorem CallsE.mono {P:Program} {f:FuncId} {us:Array Value} {w:World} {R R':Ending→World→Prop} (hc:CallsE P f us w R) (h:∀ e w',R e w'→R' e w'):CallsE P f us w R':=by
 rcases hc with ⟨h1,h2⟩|⟨v,w',h1,h2⟩
 ·exact .inl ⟨h1,h2.mono h⟩
 ·exact .inr ⟨v,w',h1,h _ _ h2⟩
structure ACalls (P:Program) (f:FuncId) (args:List AV) (h:Heap) (R:AV→Heap→Prop):Prop where
 calls:∀ (X:Nat→Prop) (g:Gh) (w:World) (us:Array Value),CW X g h w→RepVs ⟨g,live X h,w⟩ args us.toList →
  CallsE P f us w fun e w'=>∃ v u g' h',e=.returned u∧R v h'∧CW X g' h' w'∧Rep ⟨g',live X h',w'⟩ v u∧Step X g h w g' h' w'
def QCall (P:Program) (f:FuncId) (args:List AV) (h:Heap) (v:AV):Prop:=
 ACalls P f args h fun v' h'=>v'=v∧h'=h
def lenP (d:Option TypeDesc) (x:AV) (K:AV→Prop):Prop:=
 match d,x with
 | some (.slice _),.sl _ _ xs=>K (.int .i64 xs.length)
 | some (.slice _),.nilS=>K (.int .i64 0)
 | some (.slice _),.slz _=>K (.int .i64 0)
 | some (.slice _),.nilO=>K (.int .i64 0)
 | some (.slice _),.osl _ _ n _=>K (.int .i64 n)
 | some (.slice _),.oslc _ _ n _ _=>K (.int .i64 n)
 | some .string,.str s=>K (.int .i64 s.length)
 | _,_=>False
def fieldOf (P:Program) (s:TypeId) (f:Nat):Option Field:=
 match P.underlying s with
 | some (.struct fs)=>fs.toList[f]?
 | _=>none
def loadI (P:Program) (t:TypeId) (cs:List AV) (K:AV→Prop):Prop:=
 match aggT P t with
 | some true=>(match takeN (P.cellsOf t) cs with
   | some l=>K (.agg l)
   | none=>False)
 | some false=>(match cs with
   | c::_=>K c
   | []=>False)
 | none=>False
def foldI (f:Int→Int→Int):Int→List AV→Option Int
 | x,[]=>some x
 | x,.int .i64 y::r=>foldI f (f x y) r
 | _,_=>none
def fillC:List (Nat × AV)→(Nat→Option (Nat × Nat))→List AV→Option (List AV)
 | [],_,cs=>some cs
 | (i,v)::r,place,cs=>match place i with
   | some (off,size)=>
     (match cellsV v with
      | some l=>(match Nat.beq l.length size with
        | true=>(match takeN off cs with
          | some a=>(match dropN (off+size) cs with
            | some b=>fillC r place (a++l++b)
            | none=>none)
          | none=>none)
        | false=>none)
      | none=>none)
   | none=>none
def placesOf (P:Program):List Field→Option (List (Nat × Nat))
 | []=>some []
 | f::fs=>match P.info? f.type with
   | some i=>(match placesOf P fs with
     | some l=>some ((f.offset,i.size)::l)
     | none=>none)
   | none=>none
def partsOf (r:Regs) (g:G):List (Nat × Operand)→Option (List (Nat × AV))
 | []=>some []
 | (i,x)::ps=>match opnd r g x with
   | some v=>(match partsOf r g ps with
     | some l=>some ((i,v)::l)
     | none=>none)
   | none=>none
def elemsOf (r:Regs) (g:G) (size:Nat):Nat→List (Nat × Operand)→Option (List (List AV))
 | _,[]=>some []
 | n,(i,x)::ps=>match Nat.beq i n with
   | true=>(match opnd r g x with
     | some v=>(match cellsV v with
       | some x=>(match Nat.beq x.length size with
         | true=>(match elemsOf r g size (n+1) ps with
           | some l=>some (x::l)
           | none=>none)
         | false=>none)
       | none=>none)
     | none=>none)
   | false=>none
def tokIf:Bool→Option Nat→Option Nat
 | true,t=>t
 | false,_=>none
def offC (off l cap k:Nat):Nat:=if cap=l then off else off+l*k
def sliceP (g:G) (x:AV) (lo hi:Int) (hiAll:Bool) (K:AV→Prop):Prop:=
 match x with
 | .str s=>gP g (0≤lo∧lo≤hi∧hi≤s.length)∧K (.str ((s.take hi.toNat).drop lo.toNat))
 | .sl k t xs=>gP g (0≤lo∧lo≤hi∧hi≤xs.length)∧K (.sl k (tokIf hiAll t) ((xs.take hi.toNat).drop lo.toNat))
 | .osl b off n k=>gP g (0≤lo∧lo≤hi∧hi≤n∧(lo=0∨lo<hi∨lo=hi))∧K (.osl b (off+lo.toNat*k) (hi.toNat - lo.toNat) k)
 | .oslc b off n c k=>gP g (0≤lo∧lo≤hi∧hi≤c∧hi≤140737488355328)∧K (.oslc b (offC off lo.toNat c k) (hi.toNat - lo.toNat) (c - lo.toNat) k)
 | .nilS=>gP g (lo=0∧hi=0)∧K .nilS
 | _=>False
def sliceTy (P:Program) (t:TypeId):AV→Bool
 | .str _=>(match P.underlying t with|some .string=>true|_=>false)
 | .sl k _ _=>(match P.underlying t with|some (.slice e)=>Nat.beq (P.cellsOf e) k|_=>false)
 | .osl _ _ _ k=>(match P.underlying t with|some (.slice e)=>Nat.beq (P.cellsOf e) k|_=>false)
 | .oslc _ _ _ _ k=>(match P.underlying t with|some (.slice e)=>Nat.beq (P.cellsOf e) k|_=>false)
 | .nilS=>(match P.underlying t with|some (.slice e)=>Nat.ble 1 (P.cellsOf e)|_=>false)
 | _=>false
def intOf?:AV→Option Int
 | .int _ n=>some n
 | _=>none
def lenOf?:AV→Option Nat
 | .sl _ _ xs=>some xs.length
 | .osl _ _ n _=>some n
 | .oslc _ _ n _ _=>some n
 | .str s=>some s.length
 | .nilS=>some 0
 | _=>none
def optInt (r:Regs) (g:G):Option Operand→Int→Option Int
 | none,d=>some d
 | some x,_=>match opnd r g x with
   | some v=>intOf? v
   | none=>none
def runesL (ns:List Int):List UInt8:=(runesBytes ns).data.toList
theorem flat1 (f:Int→AV):∀ ns:List Int,(ns.map fun n=>[f n]).flatten=ns.map f
 | []=>rfl
 | x::l=>by simp [flat1 f l]
def runesP (P:Program) (s:TypeId) (xs:List (List AV)) (K:AV→Prop):Prop:=
 match P.underlying s with
 | some (.slice e)=>(match P.underlying e with
   | some (.int .i32)=>∃ ns:List Int,(xs=ns.map (fun n=>[AV.int .i32 n])∧ns≠[]∧ns.length≤65536)∧K (.str (runesL ns))
   | _=>False)
 | _=>False
def opQ (P:Program) (r:Regs) (g:G) (h:Heap) (K:AV→Prop):Op→Prop
 | .move x=>match opnd r g x with|some v=>K v|none=>False
 | .assign x=>match opnd r g x with|some v=>K v|none=>False
 | .pick (.tmp t) (.tmp a) (.const (.bool false))=>
   (match opnd r g (.tmp t) with
   | some (.bool b)=>(match opnd r (g++[(t,b,true)]) (.tmp a) with
     | some (.bool x)=>K (.bool (b&&x))
     | _=>False)
   | _=>False)
 | .pick (.tmp t) (.const (.bool true)) (.tmp a)=>
   (match opnd r g (.tmp t) with
   | some (.bool b)=>(match opnd r (g++[(t,b,false)]) (.tmp a) with
     | some (.bool x)=>K (.bool (b||x))
     | _=>False)
   | _=>False)
 | .binOp op t x y _=>(match opnd r g x with
   | some u=>(match opnd r g y with
     | some v=>binP P g t op u v K
     | none=>False)
   | none=>False)
 | .unOp .not _ x=>(match opnd r g x with|some (.bool b)=>K (.bool (!b))|_=>False)
 | .fieldAddr s x f=>(match opnd r g x with
   | some (.iptr cs)=>(match fieldOf P s f with
     | some fd=>(match dropN fd.offset cs with
       | some l=>(match Nat.ble 1 (P.cellsOf fd.type) with|true=>K (.iptr l)|false=>False)
       | none=>False)
     | none=>False)
   | some (.optr b o)=>(match fieldOf P s f with
     | some fd=>(match Nat.ble 1 (P.cellsOf fd.type) with|true=>K (.optr b (o+fd.offset))|false=>False)
     | none=>False)
   | _=>False)
 | .field s x f=>(match opnd r g x with
   | some (.agg cs)=>(match fieldOf P s f with
     | some fd=>(match dropN fd.offset cs with
       | some l=>loadI P fd.type l K
       | none=>False)
     | none=>False)
   | _=>False)
 | .load t x=>(match opnd r g x with
   | some (.iptr cs)=>loadI P t cs K
   | some (.optr b o)=>∃ cs l,(b,Ob.vec cs)∈h∧dropN o cs=some l∧loadI P t l K
   | _=>False)
 | .box t x=>(match opnd r g x with
   | some v=>(match cellsV v with
     | some l=>(match Nat.beq l.length (P.cellsOf t) with|true=>K (.iptr l)|false=>False)
     | none=>False)
   | none=>False)
 | .indexAddr t x i=>(match P.underlying t with
   | some (.slice e)=>(match opnd r g x with
     | some (.sl k _ xs)=>(match Nat.beq k (P.cellsOf e) with
       | true=>(match opnd r g i with
         | some (.int _ n)=>∃ (j:Nat) (y:List AV),gP g (n=(j:Int)∧xs[j]?=some y)∧K (.iptr y)
         | _=>False)
       | false=>False)
     | some (.osl b off len k)=>(match Nat.beq k (P.cellsOf e) with
       | true=>(match opnd r g i with
         | some (.int _ n)=>∃ (j:Nat),gP g (n=(j:Int)∧j<len)∧K (.optr b (off+j*k))
         | _=>False)
       | false=>False)
     | _=>False)
   | some (.array m e)=>(match P.info? e with
     | some _=>(match opnd r g x with
       | some (.iptr cs)=>(match opnd r g i with
         | some (.int _ n)=>∃ (j:Nat) (l:List AV),gP g (n=(j:Int)∧j<m)∧dropN (j*P.cellsOf e) cs=some l∧K (.iptr l)
         | _=>False)
       | _=>False)
     | none=>False)
   | _=>False)
 | .index t x i=>(match P.underlying t with
   | some .string=>(match opnd r g x with
     | some (.str s)=>(match opnd r g i with
       | some (.int _ n)=>∃ (j:Nat) (y:UInt8),gP g (n=(j:Int)∧s[j]?=some y)∧K (.int .u8 y.toNat)
       | _=>False)
     | _=>False)
   | _=>False)
 | .nilCheck x=>(match opnd r g x with
   | some (.iptr cs)=>K (.iptr cs)
   | some (.optr b o)=>K (.optr b o)
   | _=>False)
 | .extract x i=>(match opnd r g x with
   | some (.tup vs)=>(match dropN i vs with
     | some (v::_)=>K v
     | _=>False)
   | _=>False)
 | .build t parts=>(match P.underlying t with
   | some (.struct fs)=>(match placesOf P fs.toList with
     | some pl=>(match partsOf r g parts.toList with
       | some ps=>(match zeroCs P t with
         | some z=>(match fillC ps (fun i=>pl[i]?) z with
           | some cs=>K (.agg cs)
           | none=>False)
         | none=>False)
       | none=>False)
     | none=>False)
   | some (.array _ e)=>(match P.info? e with
     | some ie=>(match partsOf r g parts.toList with
       | some ps=>(match zeroCs P t with
         | some z=>(match fillC ps (fun i=>some (i*ie.size,ie.size)) z with
           | some cs=>K (.agg cs)
           | none=>False)
         | none=>False)
       | none=>False)
     | none=>False)
   | _=>False)
 | .buildSlice t n parts=>(match P.underlying t with
   | some (.slice e)=>(match elemsOf r g (P.cellsOf e) 0 parts.toList with
     | some l=>(match Nat.beq l.length n with
       | true=>(match Nat.ble 1 (P.cellsOf e) with
         | true=>(match Nat.ble (n*P.cellsOf e) 65536 with
           | true=>(match zeroCs P e with
             | some z=>(match Nat.beq z.length (P.cellsOf e) with
               | true=>K (.sl (P.cellsOf e) none l)
               | false=>False)
             | none=>False)
           | false=>False)
         | false=>False)
       | false=>False)
     | none=>False)
   | _=>False)
 | .slice t x lo hi none=>(match opnd r g x with
   | some v=>(match sliceTy P t v with
     | true=>(match lenOf? v with
       | some n=>(match optInt r g lo 0 with
         | some a=>(match optInt r g hi n with
           | some b=>sliceP g v a b (match hi with|none=>true|some _=>false) K
           | none=>False)
         | none=>False)
       | none=>False)
     | false=>False)
   | none=>False)
 | .convert s t x=>(match P.underlying s with
   | some _=>(match P.underlying t,opnd r g x with
     | some (.int k),some (.int _ n)=>arith g k n K
     | some .string,some (.str s)=>K (.str s)
     | some .string,some (.sl 1 _ xs)=>runesP P s xs K
     | _,_=>False)
   | none=>False)
 | .makeFunc (.func f) first caps=>(match first.toList with
   | []=>(match opnds r g caps.toList with
     | some l=>K (.fn f l)
     | none=>False)
   | _=>False)
 | .call cl=>(match cl.callee with
   | .builtin .len=>(match cl.argTypes.toList with
     | [t]=>(match opnds r g cl.args.toList with
       | some [x]=>lenP (P.underlying t) x K
       | _=>False)
     | _=>False)
   | .builtin .cap=>(match cl.argTypes.toList with
     | [t]=>(match P.underlying t with
       | some (.slice _)=>(match opnds r g cl.args.toList with
         | some [.oslc _ _ _ c _]=>K (.int .i64 c)
         | _=>False)
       | _=>False)
     | _=>False)
   | .builtin .min=>(match opnds r g cl.args.toList with
     | some (.int .i64 x::l)=>(match foldI min x l with
       | some n=>K (.int .i64 n)
       | none=>False)
     | _=>False)
   | .builtin .max=>(match opnds r g cl.args.toList with
     | some (.int .i64 x::l)=>(match foldI max x l with
       | some n=>K (.int .i64 n)
       | none=>False)
     | _=>False)
   | .value (.func f)=>(match opnds r g cl.args.toList with
     | some vs=>∃ v,gP g (QCall P f vs h v)∧K v
     | none=>False)
   | .value (.tmp t)=>(match opnd r g (.tmp t) with
     | some (.fn f caps)=>(match opnds r g cl.args.toList with
       | some vs=>∃ v,gP g (QCall P f (vs++caps) h v)∧K v
       | none=>False)
     | _=>False)
   | _=>False)
 | .lookup t x i ok=>(match P.underlying t with
   | some (.map kt et)=>(match opnd r g i with
     | some k=>(match zeroV P et with
       | some z=>(match opnd r g x with
         | some (.omap b)=>∃ es v f,(b,Ob.map es)∈h∧gP g (keyFits P kt k∧mlook P kt k es z=some (v,f))∧K (okTup ok v f)
         | some .nilM=>gP g (keyFits P kt k)∧K (okTup ok z false)
         | _=>False)
       | none=>False)
     | none=>False)
   | _=>False)
 | _=>False
def setC (cs:List AV) (o:Nat) (vs:List AV):List AV:=cs.take o++vs++cs.drop (o+vs.length)
def repC (n:Nat) (z:List AV):List AV:=(List.replicate n z).flatten
def AMAX:Nat:=4294967296
def srcOf (k:Nat):AV→Option (List (List AV))
 | .sl k' _ ys=>(match Nat.beq k' k with|true=>some ys|false=>none)
 | .nilS=>some []
 | .slz k'=>(match Nat.beq k' k with|true=>some []|false=>none)
 | .str s=>(match Nat.beq 1 k with|true=>some (s.map fun b=>[AV.int .u8 b.toNat])|false=>none)
 | _=>none
def srcTy (P:Program) (t:TypeId):Bool:=
 match P.underlying t with
 | some (.slice _)=>true
 | some .string=>true
 | _=>false
def decS (s:List UInt8) (pos:Nat):Nat × Nat:=Utf8.decode ⟨s.toArray⟩ pos
def opL (P:Program) (r:Regs) (h:Heap) (K:AV→Heap→Prop):Op→Prop
 | .box t x=>(match opnd r [] x with
   | some v=>(match cellsV v with
     | some l=>(match Nat.beq l.length (P.cellsOf t) with|true=>∀ b,K (.optr b 0) ((b,.vec l)::h)|false=>False)
     | none=>False)
   | none=>False)
 | .alloc t=>(match zeroCs P t with
   | some z=>∀ b,K (.optr b 0) ((b,.vec z)::h)
   | none=>False)
 | .store t x y=>(match opnd r [] x with
   | some (.optr b o)=>(match opnd r [] y with
     | some v=>(match cellsV v with
       | some l=>(match Nat.beq l.length (P.cellsOf t) with
         | true=>∃ cs h',Upd b (.vec cs) b (.vec (setC cs o l)) h h'∧(0<l.length∧o+l.length≤cs.length)∧K .unit h'
         | false=>False)
       | none=>False)
     | none=>False)
   | _=>False)
 | .binOp .add _ x y _=>(match opnd r [] x with
   | some (.int .i64 a)=>(match opnd r [] y with
     | some (.int .i64 b)=>K (.int .i64 (IntKind.i64.wrap (a+b))) h
     | _=>False)
   | _=>False)
 | .makeMap _ none=>∀ b,K (.omap b) ((b,.map [])::h)
 | .mapUpdate t m k x=>(match P.underlying t with
   | some (.map kt _)=>(match opnd r [] m with
     | some (.omap b)=>(match opnd r [] k with
       | some kv=>(match opnd r [] x with
         | some v=>∃ es h',Upd b (.map es) b (.map (mset P kt kv v es)) h h'∧(keyFits P kt kv∧mget P kt kv es≠none)∧K .unit h'
         | none=>False)
       | none=>False)
     | _=>False)
   | _=>False)
 | .range t x=>(match P.underlying t with
   | some (.map _ _)=>(match opnd r [] x with
     | some (.omap m)=>∃ es,(m,Ob.map es)∈h∧∀ bs cl,bs.length=es.length∧bs.Nodup→∃ h',Upd m (.map es) m (.rmap es bs cl) h h'∧∀ it,K (.oit it) ((it,.iter m cl [])::h')
     | _=>False)
   | some .string=>(match opnd r [] x with
     | some (.str s)=>∀ it,K (.oit it) ((it,.siter s 0)::h)
     | _=>False)
   | _=>False)
 | .next x true=>(match opnd r [] x with
   | some (.oit it)=>∃ s pos,(it,Ob.siter s pos)∈h∧(s.length≤pos→K (.tup [.bool false]) h) ∧
      (pos<s.length→∃ h',Upd it (.siter s pos) it (.siter s (pos+(decS s pos).2)) h h'∧K (.tup [.bool true,.int .i64 pos,.int .i32 (decS s pos).1]) h')
   | _=>False)
 | .next x false=>(match opnd r [] x with
   | some (.oit it)=>∃ m cl seen es bs,(it,Ob.iter m cl seen)∈h∧(m,Ob.rmap es bs cl)∈h∧((∀ b∈bs,b∈seen)→K (.tup [.bool false]) h) ∧
      ∀ (i:Nat) b e,bs[i]?=some b→es[i]?=some e→b ∉ seen→∃ h',Upd it (.iter m cl seen) it (.iter m cl (seen++[b])) h h'∧K (.tup [.bool true,e.1,e.2]) h'
   | _=>False)
 | .entry x=>(match opnd r [] x with
   | some (.oit it)=>∃ m cl seen es bs,(it,Ob.iter m cl seen)∈h∧(m,Ob.rmap es bs cl)∈h∧∃ (i:Nat) (b:Nat) (e:AV × AV) (s0:List Nat),seen=s0++[b]∧bs[i]?=some b∧es[i]?=some e∧K (.tup [e.1,e.2]) h
   | _=>False)
 | .makeSlice t x y=>(match P.underlying t with
   | some (.slice e)=>(match opnd r [] x with
     | some (.int _ n)=>(match opnd r [] y with
       | some (.int _ m)=>(match zeroCs P e with
         | some z=>(match Nat.beq z.length (P.cellsOf e) with
           | true=>(match Nat.ble 1 z.length with
             | true=>(match Nat.ble (P.bytesOf e) 4096 with
               | true=>(n=m∧0≤n∧n≤4294967296)∧∀ b,K (.osl b 0 n.toNat z.length) ((b,.vec (repC n.toNat z))::h)
               | false=>False)
             | false=>False)
           | false=>False)
         | none=>False)
       | _=>False)
     | _=>False)
   | _=>False)
 | .buildSlice t n parts=>(match P.underlying t with
   | some (.slice e)=>(match elemsOf r [] (P.cellsOf e) 0 parts.toList with
     | some l=>(match Nat.beq l.length n with
       | true=>(match Nat.ble 1 (P.cellsOf e) with
         | true=>(match Nat.ble (n*P.cellsOf e) 65536 with
           | true=>(match zeroCs P e with
             | some z=>(match Nat.beq z.length (P.cellsOf e) with
               | true=>∀ q,K (.sl (P.cellsOf e) (some q) l) ((q,.tok)::h)
               | false=>False)
             | none=>False)
           | false=>False)
         | false=>False)
       | false=>False)
     | none=>False)
   | _=>False)
 | .call cl=>(match cl.callee with
   | .value (.func f)=>(match opnds r [] cl.args.toList with
     | some vs=>ACalls P f vs h K
     | none=>False)
   | .value (.tmp t)=>(match opnd r [] (.tmp t) with
     | some (.fn f caps)=>(match opnds r [] cl.args.toList with
       | some vs=>ACalls P f (vs++caps) h K
       | none=>False)
     | _=>False)
   | .builtin .append=>(match cl.argTypes.toList with
     | [t,tx]=>(match P.underlying t,srcTy P tx with
       | some (.slice e),true=>(match Nat.ble 1 (P.cellsOf e) with
         | true=>(match Nat.ble (P.bytesOf e) 4096 with
           | true=>(match zeroCs P e with
            | none=>False
            | some z=>match Nat.beq z.length (P.cellsOf e) with
             | false=>False
             | true=>match opnds r [] cl.args.toList with
             | some [.nilS,.osl b2 o2 n2 k2]=>(match Nat.beq k2 (P.cellsOf e) with
               | true=>∃ (cs2:List AV) (ys:List (List AV)),(b2,Ob.vec cs2)∈h∧((cs2.drop o2).take (n2*k2)=ys.flatten∧(∀ z∈ys,z.length=k2)∧ys.length=n2)∧(0<n2∧n2≤AMAX)∧∀ b,K (.osl b 0 n2 k2) ((b,.vec ys.flatten)::h)
               | false=>False)
             | some [.oslc b off n c k,.osl b2 o2 n2 k2]=>(match Nat.beq k (P.cellsOf e),Nat.beq k2 k with
               | true,true=>∃ (cs2:List AV) (ys:List (List AV)),(b2,Ob.vec cs2)∈h∧((cs2.drop o2).take (n2*k2)=ys.flatten∧(∀ z∈ys,z.length=k2)∧ys.length=n2)∧n+n2≤AMAX∧∃ cs,(b,Ob.vec cs)∈h ∧
                 ((n+n2≤c∧cs.length=off+n*k∧∃ h',Upd b (.vec cs) b (.vec (cs++ys.flatten)) h h'∧K (.oslc b off (n+n2) c k) h') ∨
                  (c<n+n2∧(n=0∨off+n*k≤cs.length)∧∀ q,K (.osl q 0 (n+n2) k) ((q,.vec ((cs.drop off).take (n*k)++ys.flatten))::h)))
               | _,_=>False)
             | some [.nilS,y]=>(match srcOf (P.cellsOf e) y with
               | some ys=>ys.length≤AMAX∧∀ q,K (.sl (P.cellsOf e) (some q) ys) ((q,.tok)::h)
               | none=>False)
             | some [.nilO,y]=>(match srcOf (P.cellsOf e) y with
               | some ys=>(0<ys.length∧ys.length≤AMAX)∧∀ b,K (.osl b 0 ys.length (P.cellsOf e)) ((b,.vec ys.flatten)::h)
               | none=>False)
             | some [.osl b 0 n k,y]=>(match Nat.beq k (P.cellsOf e) with
               | true=>(match srcOf k y with
                 | some ys=>∃ cs,(b,Ob.vec cs)∈h∧(cs.length=n*k∧n+ys.length≤AMAX)∧∀ b',∃ h',Upd b (.vec cs) b' (.vec (cs++ys.flatten)) h h'∧K (.osl b' 0 (n+ys.length) k) h'
                 | none=>False)
               | false=>False)
             | some [.sl k (some q) xs,.osl b2 o2 n2 k2]=>(match Nat.beq k (P.cellsOf e),Nat.beq k2 k with
               | true,true=>∃ cs ys,(b2,Ob.vec cs)∈h∧((cs.drop o2).take (n2*k2)=ys.flatten∧(∀ z∈ys,z.length=k2)∧ys.length=n2)∧(xs++ys).length≤AMAX∧∀ q',∃ h',Upd q .tok q' .tok h h'∧K (.sl k (some q') (xs++ys)) h'
               | _,_=>False)
             | some [.sl k (some q) xs,y]=>(match Nat.beq k (P.cellsOf e) with
               | true=>(match srcOf k y with
                 | some ys=>(xs++ys).length≤AMAX∧∀ q',∃ h',Upd q .tok q' .tok h h'∧K (.sl k (some q') (xs++ys)) h'
                 | none=>False)
               | false=>False)
             | _=>False)
           | false=>False)
         | false=>False)
       | some (.slice e),false=>(match P.underlying tx with
         | some (.int _)=>(match Nat.ble 1 (P.cellsOf e) with
           | true=>(match Nat.ble (P.bytesOf e) 4096 with
             | true=>(match zeroCs P e with
               | some z=>(match Nat.beq z.length (P.cellsOf e) with
                 | true=>(match opnds r [] cl.args.toList with
                   | some [.oslc b off n c k,.int _ m]=>(match Nat.beq k (P.cellsOf e) with
                     | true=>∃ (cs:List AV),(b,Ob.vec cs)∈h∧(0<m∧(c:Int)<n+m∧(n:Int)+m≤4294967296∧off+n*k≤cs.length)∧∀ q,K (.osl q 0 (n+m.toNat) k) ((q,.vec ((cs.drop off).take (n*k)++repC m.toNat z))::h)
                     | false=>False)
                   | _=>False)
                 | false=>False)
               | none=>False)
             | false=>False)
           | false=>False)
         | _=>False)
       | _,_=>False)
     | _=>False)
   | .builtin .copy=>(match cl.argTypes.toList with
     | [t,_]=>(match P.underlying t with
       | some (.slice e)=>(match opnds r [] cl.args.toList with
         | some [.osl b o n k,.osl b2 o2 n2 k2]=>(match Nat.beq k (P.cellsOf e),Nat.beq k2 k,Nat.ble 1 (P.cellsOf e) with
           | true,true,true=>∃ (cs2:List AV) (ys:List (List AV)),(b2,Ob.vec cs2)∈h∧((cs2.drop o2).take (min n2 n*k2)=ys.flatten∧(∀ z∈ys,z.length=k2)∧ys.length=min n2 n) ∧
              ∃ cs h',Upd b (.vec cs) b (.vec (setC cs o ys.flatten)) h h'∧(0<min n2 n∧o+ys.flatten.length≤cs.length)∧K (.int .i64 (min n2 n:Nat)) h'
           | _,_,_=>False)
         | some [.osl b o n k,.oslc b2 o2 n2 _ k2]=>(match Nat.beq k (P.cellsOf e),Nat.beq k2 k,Nat.ble 1 (P.cellsOf e) with
           | true,true,true=>∃ (cs2:List AV) (ys:List (List AV)),(b2,Ob.vec cs2)∈h∧((cs2.drop o2).take (min n2 n*k2)=ys.flatten∧(∀ z∈ys,z.length=k2)∧ys.length=min n2 n) ∧
              ∃ cs h',Upd b (.vec cs) b (.vec (setC cs o ys.flatten)) h h'∧(0<min n2 n∧o+ys.flatten.length≤cs.length)∧K (.int .i64 (min n2 n:Nat)) h'
           | _,_,_=>False)
         | some [.oslc b o n _ k,.oslc b2 o2 n2 _ k2]=>(match Nat.beq k (P.cellsOf e),Nat.beq k2 k,Nat.ble 1 (P.cellsOf e) with
           | true,true,true=>∃ (cs2:List AV) (ys:List (List AV)),(b2,Ob.vec cs2)∈h∧((cs2.drop o2).take (min n2 n*k2)=ys.flatten∧(∀ z∈ys,z.length=k2)∧ys.length=min n2 n) ∧
              ∃ cs h',Upd b (.vec cs) b (.vec (setC cs o ys.flatten)) h h'∧(0<min n2 n∧o≤cs.length)∧K (.int .i64 (min n2 n:Nat)) h'
           | _,_,_=>False)
         | some [.oslc b o n _ k,.osl b2 o2 n2 k2]=>(match Nat.beq k (P.cellsOf e),Nat.beq k2 k,Nat.ble 1 (P.cellsOf e) with
           | true,true,true=>∃ (cs2:List AV) (ys:List (List AV)),(b2,Ob.vec cs2)∈h∧((cs2.drop o2).take (min n2 n*k2)=ys.flatten∧(∀ z∈ys,z.length=k2)∧ys.length=min n2 n) ∧
              ∃ cs h',Upd b (.vec cs) b (.vec (setC cs o ys.flatten)) h h'∧(0<min n2 n∧o≤cs.length)∧K (.int .i64 (min n2 n:Nat)) h'
           | _,_,_=>False)
         | some [.osl b o n k,y]=>(match Nat.beq k (P.cellsOf e),Nat.ble 1 (P.cellsOf e) with
           | true,true=>(match srcOf k y with
             | some ys=>∃ cs h',Upd b (.vec cs) b (.vec (setC cs o ys.flatten)) h h'∧(0<ys.length∧ys.length≤n∧o+ys.flatten.length≤cs.length)∧K (.int .i64 ys.length) h'
             | none=>False)
           | _,_=>False)
         | _=>False)
       | _=>False)
     | _=>False)
   | .builtin .clear=>(match cl.argTypes.toList with
     | [t]=>(match P.underlying t with
       | some (.slice e)=>(match zeroCs P e with
         | some z=>(match opnds r [] cl.args.toList with
           | some [.osl b o n k]=>(match Nat.beq z.length k with
             | true=>∃ cs h',Upd b (.vec cs) b (.vec (setC cs o (repC n z))) h h'∧(0<n∧o+n*k≤cs.length)∧K (.tup []) h'
             | false=>False)
           | _=>False)
         | none=>False)
       | _=>False)
     | _=>False)
   | _=>False)
 | _=>False
def opO (P:Program) (r:Regs) (h:Heap) (K:AV→Heap→Prop) (cl:Call):Prop:=
 match cl.callee with
 | .builtin .append=>(match cl.argTypes.toList with
   | [t,tx]=>(match P.underlying t,srcTy P tx with
     | some (.slice e),true=>(match Nat.ble 1 (P.cellsOf e) with
       | true=>(match Nat.ble (P.bytesOf e) 4096 with
         | true=>(match zeroCs P e with
           | none=>False
           | some z=>match Nat.beq z.length (P.cellsOf e) with
             | false=>False
             | true=>match opnds r [] cl.args.toList with
               | some [.nilS,y]=>(match srcOf (P.cellsOf e) y with
                 | some ys=>(0<ys.length∧ys.length≤AMAX)∧∀ b,K (.osl b 0 ys.length (P.cellsOf e)) ((b,.vec ys.flatten)::h)
                 | none=>False)
               | some [.oslc b off 0 0 k,y]=>(match Nat.beq k (P.cellsOf e) with
                 | true=>(match srcOf k y with
                   | some ys=>((∃ cs,(b,Ob.vec cs)∈h)∧0<ys.length∧ys.length≤AMAX)∧∀ q,K (.osl q 0 ys.length k) ((q,.vec ys.flatten)::h)
                   | none=>False)
                 | false=>False)
               | _=>False)
         | false=>False)
       | false=>False)
     | _,_=>False)
   | _=>False)
 | _=>False
def opB (P:Program) (r:Regs) (h:Heap) (K:AV→Heap→Prop) (t:TypeId) (n:Nat) (parts:Array (Nat × Operand)):Prop:=
 match P.underlying t with
 | some (.slice e)=>(match elemsOf r [] (P.cellsOf e) 0 parts.toList with
   | some l=>(match Nat.beq l.length n,Nat.ble 1 (P.cellsOf e),Nat.ble (n*P.cellsOf e) 65536 with
     | true,true,true=>(match zeroCs P e with
       | some z=>(match Nat.beq z.length (P.cellsOf e) with
         | true=>(match n with
           | 0=>∀ b,K (.oslc b 0 0 0 (P.cellsOf e)) ((b,.vec [])::h)
           | n+1=>∀ b,K (.osl b 0 (n+1) (P.cellsOf e)) ((b,.vec l.flatten)::h))
         | false=>False)
       | none=>False)
     | _,_,_=>False)
   | none=>False)
 | _=>False
def opX (P:Program) (own own2:List Nat) (d:Option Nat) (r:Regs) (h:Heap) (K:AV→Heap→Prop) (op:Op):Prop:=
 match op,d with
 | .call cl,some d=>(match memN own d with
   | true=>opO P r h K cl
   | false=>opL P r h K (.call cl))
 | .buildSlice t n parts,some d=>(match memN own2 d with
   | true=>opB P r h K t n parts
   | false=>opL P r h K (.buildSlice t n parts))
 | _,_=>opL P r h K op
def notIn:Regs→Nat→Bool
 | [],_=>true
 | (_,[],_)::r,d=>notIn r d
 | (_,(e::g),_)::r,d=>match memT (e::g) d with
   | true=>false
   | false=>notIn r d
where memT:G→Nat→Bool
 | [],_=>false
 | (t,_,_)::g,d=>match Nat.beq t d with
   | true=>true
   | false=>memT g d
def loud (c:Cfg) (d:Option Nat):Op→Bool
 | .box _ _|.buildSlice _ _ _|.binOp _ _ _ _ _=>match d with
   | some n=>memN c.own n
   | none=>false
 | .alloc _|.store _ _ _|.makeMap _ _|.makeSlice _ _ _|.mapUpdate _ _ _ _|.range _ _|.next _ _|.entry _=>true
 | .call cl=>(match cl.callee with
   | .builtin .append=>true
   | .builtin .clear=>true
   | .builtin .copy=>true
   | .value _=>true
   | _=>false)
 | _=>false
def isCallV:Op→Bool
 | .call cl=>(match cl.callee with
   | .value _=>true
   | _=>false)
 | _=>false
def normK (r:Regs) (k:Regs→Prop):List Nat→Prop
 | []=>k []
 | t::ts=>match lookR r t with
   | some ([],v)=>normK r (fun l=>k ((t,[],v)::l)) ts
   | _=>normK r k ts
def setP (n:Nat) (d:Option Nat) (g:G) (v:AV) (r:Regs) (K:Regs→Prop):Prop:=
 match d with
 | none=>K r
 | some d=>match Nat.blt d n with
   | true=>(match notIn ((d,g,v)::r) d with
     | true=>K ((d,g,v)::r)
     | false=>False)
   | false=>False
def storeF (P:Program) (r:Regs) (h:Heap) (t:TypeId) (d:Nat) (y:Operand) (K:Regs→Heap→Prop):Prop:=
 match opnd r [] (.tmp d) with
 | some (.optr b 0)=>(match opnd r [] y with
   | some v=>(match cellsV v with
     | some l=>(match Nat.beq l.length (P.cellsOf t) with
       | true=>∃ cs h',Rem b (.vec cs) h h'∧(0<l.length∧cs.length=l.length)∧K ((d,[],.iptr l)::r) h'
       | false=>False)
     | none=>False)
   | none=>False)
 | _=>False
def ungG (tj:Nat) (w:Bool):G→G
 | []=>[]
 | (t,b,v)::g=>match Nat.beq t tj with
   | true=>(match eqB v w with
     | true=>ungG tj w g
     | false=>(t,b,v)::ungG tj w g)
   | false=>(t,b,v)::ungG tj w g
def ung (tj:Nat) (w:Bool):Regs→Regs
 | []=>[]
 | (t,g,v)::r=>(t,ungG tj w g,v)::ung tj w r
def regP (P:Program) (c:Cfg) (n:Nat) (all:List Oper) (K:Regs→Heap→Prop):List Oper→Regs→Heap→Prop
 | [],r,h=>normK r (fun r'=>K r' h) c.keep
 | o::os,r,h=>
   match o.guard with
   | none=>(match loud c o.dst o.op with
     | true=>(match o.op,o.dst with
       | .store t (.tmp d) y,none=>(match memN c.frz d with
         | true=>storeF P r h t d y (regP P c n all K os)
         | false=>opL P r h (fun v h'=>setP n o.dst [] v r fun r'=>regP P c n all K os r' h') o.op)
       | _,_=>opX P c.own c.lc o.dst r h (fun v h'=>setP n o.dst [] v r fun r'=>regP P c n all K os r' h') o.op)
     | false=>opQ P r [] h (fun v=>setP n o.dst [] v r fun r'=>regP P c n all K os r' h) o.op)
   | some (j,w)=>match all[j]? with
     | some oj=>(match oj.dst with
       | some tj=>(match lookR r tj with
         | some (gj,.bool b)=>(match isCallV o.op,(match o.dst with|some d=>memN c.spl d|none=>false) with
           | true,true=>(match gj with
             | []=>(b=w→opL P (ung tj w r) h (fun v h'=>setP n o.dst [] v (ung tj w r) fun r'=>regP P c n all K os r' h') o.op) ∧
                (b≠w→setP n o.dst [(tj,b,w)] (.bool false) r fun r'=>regP P c n all K os r' h)
             | _=>False)
           | _,_=>(match (match isCallV o.op with|true=>false|false=>loud c o.dst o.op) with
             | true=>False
             | false=>opQ P r (gj++[(tj,b,w)]) h (fun v=>setP n o.dst (gj++[(tj,b,w)]) v r fun r'=>regP P c n all K os r' h) o.op))
         | _=>False)
       | none=>False)
     | none=>False
def clN (cl:List Nat) (i:Nat):Nat:=match cl[i]? with|some m=>m|none=>0
def cloAt (cl:List Nat):List Edge→Nat
 | []=>0
 | e::es=>match Region.binds .any e with
   | true=>Nat.lor (Nat.lor (2 ^ e.on) (clN cl e.on)) (cloAt cl es)
   | false=>cloAt cl es
def clos:List Oper→List Nat→List Nat
 | [],acc=>acc
 | o::os,acc=>clos os (acc++[cloAt acc o.after.toList])
def readsX:List Operand→List Nat
 | []=>[]
 | .tmp t::xs=>t::readsX xs
 | _::xs=>readsX xs
def readsOf (all:List Oper) (o:Oper):List Nat:=
 (match o.guard with
  | some (j,_)=>(match all[j]? with
    | some oj=>(match oj.dst with|some t=>[t]|none=>[])
    | none=>[])
  | none=>[])++readsX o.op.operands.toList
def isDst (t:Nat) (o:Oper):Bool:=match o.dst with|some d=>Nat.beq d t|none=>false
def nearOK (cl:List Nat) (all:List (Nat × Oper)) (i t:Nat):Bool:=all.all fun (j,o)=>!isDst t o||Nat.testBit (clN cl i) j||Nat.testBit (clN cl j) i
def drawOK (all:List Oper) (ord:List Nat):Bool:=
 let cl:=clos all []
 let ix:=all.zipIdx.map fun (o,i)=>(i,o)
 (ix.all fun (i,o)=>(o.after.toList.all fun e=>!Region.binds .any e||Nat.blt e.on i)&&Nat.beq (clN cl i) (cloAt cl o.after.toList)) &&
 Nat.beq ord.length all.length&&((List.range all.length).all fun i=>ord.contains i)&&nodupB ord &&
 ordOK [] ord &&
 (ix.all fun (i,o)=>(readsOf all o).all fun t=>nearOK cl ix i t) &&
 (ix.all fun (i,o)=>ix.all fun (j,o')=>Nat.beq i j||(match o.dst with|some d=>!isDst d o'|none=>true))
where
 nodupB:List Nat→Bool
  | []=>true
  | x::xs=>!xs.contains x&&nodupB xs
 ordOK:List Nat→List Nat→Bool
  | _,[]=>true
  | pre,i::rest=>(match all[i]? with
    | some o=>o.after.toList.all fun e=>!Region.binds .any e||pre.contains e.on
    | none=>false)&&ordOK (i::pre) rest
def pathOK (cl:List Nat) (all:List Oper) (i:Nat):G→Bool
 | []=>true
 | (t,_,_)::g=>(all.zipIdx.all fun (o,j)=>!isDst t o||Nat.testBit (clN cl i) j)&&pathOK cl all i g
def lateOK (cl:List Nat) (i:Nat):List Nat→Bool
 | []=>true
 | j::rest=>match Nat.testBit (clN cl j) i with
   | true=>lateOK cl i rest
   | false=>false
def nfOK (cl:List Nat) (i:Nat):List Nat→Bool
 | []=>true
 | j::rest=>match Nat.testBit (clN cl i) j with
   | true=>nfOK cl i rest
   | false=>false
def reads (op:Op):Bool:=match op with
 | .load _ _=>true
 | .lookup _ _ _ _=>true
 | _=>false
def calm (r:Regs):Op→Bool
 | .call cl=>(match cl.callee with
   | .builtin .append=>(match opnds r [] cl.args.toList with
     | some (.nilS::_)=>true
     | some (.sl _ (some _) _::_)=>true
     | _=>false)
   | _=>false)
 | _=>false
def nfOKc (cl:List Nat) (all:List Oper) (i:Nat):List Nat→Bool
 | []=>true
 | j::rest=>match Nat.testBit (clN cl i) j with
   | true=>nfOKc cl all i rest
   | false=>(match all[j]? with
     | some o=>(match reads o.op with
       | true=>nfOKc cl all i rest
       | false=>false)
     | none=>false)
def allocLike:Op→Bool
 | .alloc _=>true
 | .box _ _=>true
 | .makeMap _ _=>true
 | .makeSlice _ _ _=>true
 | .buildSlice _ _ _=>true
 | _=>false
def hfree (r:Regs) (g:G):Op→Bool
 | .load _ x=>(match opnd r g x with|some (.iptr _)=>true|_=>false)
 | .lookup _ _ _ _=>false
 | .call cl=>(match cl.callee with|.builtin _=>true|_=>false)
 | _=>true
def entryQ (P:Program) (all:List Oper) (r:Regs) (h:Heap) (K:G→AV→Prop) (o:Oper):Prop:=
 match o.guard with
 | none=>opQ P r [] h (K []) o.op
 | some (j,w)=>match all[j]? with
   | some oj=>(match oj.dst with
     | some tj=>(match lookR r tj with
       | some (gj,.bool b)=>opQ P r (gj++[(tj,b,w)]) h (K (gj++[(tj,b,w)])) o.op
       | _=>False)
     | none=>False)
   | none=>False
def loudD (c:Cfg) (o:Oper):Bool:=
 match isCallV o.op with
 | true=>(match o.dst with|some d=>memN c.lc d|none=>true)
 | false=>loud c o.dst o.op
def frzP (K:Regs→Heap→Prop):List Nat→Regs→Heap→Prop
 | [],r,h=>K r h
 | d::ds,r,h=>match lookR r d with
   | some ([],.optr b 0)=>∃ cs h',Rem b (.vec cs) h h'∧frzP K ds ((d,[],.iptr cs)::r) h'
   | _=>False
def regD (P:Program) (c:Cfg) (n:Nat) (all:List Oper) (cl:List Nat) (K:Regs→Heap→Prop):List Nat→List Nat→Regs→Heap→Prop
 | [],_,r,h=>K r h
 | i::rest,nf,r,h=>match all[i]? with
   | none=>False
   | some o=>match loudD c o with
     | true=>(match o.guard with
       | none=>(match lateOK cl i rest with
         | true=>(match (match allocLike o.op with|true=>true|false=>(match calm r o.op with|true=>nfOKc cl all i nf|false=>nfOK cl i nf)) with
           | true=>opX P c.own c.lc o.dst r h (fun v h'=>setP n o.dst [] v r fun r'=>regD P c n all cl K rest nf r' h') o.op
           | false=>False)
         | false=>False)
       | some _=>False)
     | false=>entryQ P all r h (fun g v=>match pathOK cl all i g with
       | true=>setP n o.dst g v r fun r'=>regD P c n all cl K rest (match hfree r g o.op with|true=>nf|false=>i::nf) r' h
       | false=>False) o
def findOrd:List (Nat × List Nat × List Nat)→Nat→Option (List Nat × List Nat)
 | [],_=>none
 | (i,x)::l,n=>match Nat.beq i n with
   | true=>some x
   | false=>findOrd l n
inductive Ex where
 | normal|exit (id:Nat)|ret
def holdsC (a:Act) (g:G):Prop:=∀ e∈g,a.tmps[e.1]?=some (.bool e.2.2)
structure Conc (n:Nat) (X:Nat→Prop) (g:Gh) (r:Regs) (h:Heap) (a:Act) (w:World):Prop where
 cw:CW X g h w
 regs:∀ t gg v,lookR r t=some (gg,v) →
  (holdsC a gg→(∀ e∈gg,e.2.1=e.2.2)∧∃ u,a.tmps[t]?=some u∧Rep ⟨g,live X h,w⟩ v u)∧(¬ holdsC a gg→a.tmps[t]?=some undef)
 defers:a.defers=[]
 size:a.tmps.size=n
def Ex.toExit:Ex→Exit
 | .normal=>.normal
 | .exit i=>.exit i
 | .ret=>.ret
structure Holds (P:Program) (n:Nat) (X:Nat→Prop) (c:Code) (Q:Ex→Regs→Heap→Prop) (r:Regs) (h:Heap):Prop where
 holds:∀ g a w,Conc n X g r h a w→c.wp P (fun e a' w'=>∃ ex g' r' h',e=Ex.toExit ex∧Q ex r' h'∧Conc n X g' r' h' a' w'∧Step X g h w g' h' w') a w
def cw (P:Program) (c:Cfg) (n:Nat) (X:Nat→Prop):Code→(Ex→Regs→Heap→Prop)→Regs→Heap→Prop
 | .skip,Q,r,h=>Q .normal r h
 | .region id ops draw,Q,r,h=>(match draw with
   | false=>regP P c n ops.toList (Q .normal) ops.toList r h
   | true=>(match findOrd c.ords id with
     | some (ord,fz)=>drawOK ops.toList ord=true ∧
        regD P c n ops.toList (clos ops.toList []) (fun r' h'=>frzP (fun r'' h''=>normK r'' (fun r3=>Q .normal r3 h'') c.keep) fz r' h') ord [] r h
     | none=>Holds P n X (.region id ops true) Q r h))
 | .seq a b,Q,r,h=>cw P c n X a (fun e r' h'=>match e with
   | .normal=>cw P c n X b Q r' h'
   | e=>Q e r' h') r h
 | .cond x a b,Q,r,h=>(match opnd r [] x with
   | some (.bool t)=>(t=true→cw P c n X a Q r h)∧(t=false→cw P c n X b Q r h)
   | _=>False)
 | .block id a,Q,r,h=>cw P c n X a (fun e r' h'=>match e with
   | .exit i=>(match Nat.beq i id with
     | true=>Q .normal r' h'
     | false=>Q (.exit i) r' h')
   | e=>Q e r' h') r h
 | .loop a,Q,r,h=>Holds P n X (.loop a) Q r h
 | .exit i,Q,r,h=>Q (.exit i) r h
 | .ret,Q,r,h=>Q .ret r h
 | _,_,_,_=>False
end Go.Abs
/-
 The abstract layer,part C: the evaluator is right,operation by operation.
-/
namespace Go.Abs
open Go
variable {P:Program}
theorem okI_has {k:IntKind} {n:Int} (h:okI k n=true):k.has n:=by
 unfold okI at h
 split at h
 ·simp at h;constructor<;>simp [IntKind.min,IntKind.max,IntKind.signed,IntKind.bits]<;>omega
 ·simp at h;constructor<;>simp [IntKind.min,IntKind.max,IntKind.signed,IntKind.bits]<;>omega
 ·simp at h;constructor<;>simp [IntKind.min,IntKind.max,IntKind.signed,IntKind.bits]<;>omega
 ·simp at h;constructor<;>simp [IntKind.min,IntKind.max,IntKind.signed,IntKind.bits]<;>omega
 ·simp at h;constructor<;>simp [IntKind.min,IntKind.max,IntKind.signed,IntKind.bits]<;>omega
 ·cases h
theorem ofVal_rep (c:Cx) {v:Value} {x:AV} (h:ofVal v=some x):Rep c x v:=by
 unfold ofVal at h
 split at h<;>first|(cases h;simp [Rep];done)|skip
 ·split at h
  ·rename_i hk;cases h;rw [Rep];exact ⟨rfl,okI_has hk⟩
  ·cases h
 ·split at h
  ·rename_i hk
   cases h
   rw [Rep]
   refine ⟨_,rfl,rfl,?_⟩
   have:=Nat.le_of_ble_eq_true hk
   unfold LMAX;omega
  ·cases h
 ·cases h
theorem ofVals_rep (c:Cx):∀ {vs:List Value} {xs:List AV},ofVals vs=some xs→RepVs c xs vs
 | [],xs,h=>by cases h;simp [RepVs]
 | v::vs,xs,h=>by
   unfold ofVals at h
   cases hv:ofVal v with
   | none=>simp [hv] at h
   | some a=>
     cases hr:ofVals vs with
     | none=>simp [hv,hr] at h
     | some b=>
       simp [hv,hr] at h
       subst h
       simp only [RepVs]
       exact ⟨v,vs,rfl,ofVal_rep c hv,ofVals_rep c hr⟩
theorem memG_sound {a:Act}:∀ {g:G} {t:Nat} {w:Bool},memG g t w=true→holdsC a g→a.tmps[t]?=some (.bool w)
 | [],_,_,h,_=>by cases h
 | (t',b,w')::g,t,w,h,hh=>by
   unfold memG at h
   split at h
   ·rename_i ht
    split at h
    ·rename_i hw
     have e1:t'=t:=Nat.eq_of_beq_eq_true ht
     have e2:w'=w:=by cases w'<;>cases w<;>simp_all [eqB]
     have:=hh (t',b,w') (by simp)
     simpa [e1,e2] using this
    ·exact memG_sound h (fun e he=>hh e (by simp [he]))
   ·exact memG_sound h (fun e he=>hh e (by simp [he]))
theorem subG_sound {a:Act} {g:G} (hh:holdsC a g):∀ {g':G},subG g' g=true→holdsC a g'
 | [],_=>fun e he=>by cases he
 | (t,b,w)::g',h=>by
   unfold subG at h
   split at h
   ·rename_i hm
    have h1:=memG_sound hm hh
    have h2:=subG_sound hh h
    intro e he
    rcases List.mem_cons.1 he with rfl|he
    ·exact h1
    ·exact h2 e he
   ·cases h
theorem eval_tmp {a:Act} {t:Nat} {u:Value} (h:a.tmps[t]?=some u):a.eval (.tmp t)=u:=by
 simp [Act.eval,h]
section
variable {n:Nat} {X:Nat→Prop} {g0:Gh} {r:Regs} {h:Heap} {a:Act} {w:World}
theorem Conc.opnd (hc:Conc n X g0 r h a w) {g:G} (hg:holdsC a g) {x:Operand} {v:AV} (hx:Abs.opnd r g x=some v) :
  Rep ⟨g0,live X h,w⟩ v (a.eval x):=by
 unfold Abs.opnd at hx
 split at hx
 ·rename_i t
  split at hx
  ·rename_i g' v' hl
   split at hx
   ·rename_i hs
    cases hx
    obtain ⟨_,u,hu,hr⟩:=(hc.regs _ _ _ hl).1 (subG_sound hg hs)
    rw [eval_tmp hu]
    exact hr
   ·cases hx
  ·cases hx
 ·exact ofVal_rep _ hx
 ·cases hx
  simp only [Rep,RepVs,Act.eval]
  exact ⟨#[],rfl,rfl⟩
 ·cases hx
theorem Conc.opnds (hc:Conc n X g0 r h a w) {g:G} (hg:holdsC a g):∀ {xs:List Operand} {vs:List AV},Abs.opnds r g xs=some vs →
  RepVs ⟨g0,live X h,w⟩ vs (xs.map a.eval)
 | [],vs,h=>by cases h;simp [RepVs]
 | x::xs,vs,h=>by
   unfold Abs.opnds at h
   split at h
   ·rename_i v hv
    split at h
    ·rename_i vs' hvs
     cases h
     simp only [RepVs,List.map_cons]
     exact ⟨_,_,rfl,hc.opnd hg hv,hc.opnds hg hvs⟩
    ·cases h
   ·cases h
end
theorem wp_value {o:Oper} {a:Act} {w w':World} {u:Value} {next:Act→World→Prop} {Q:Exit→Act→World→Prop}
  (hr:(execOp a.eval o).run P w=.ok (.value u) w') (hn:next (a.put o.dst u) w'):o.wp P a w next Q:=by
 simp only [Oper.wp,hr,Oper.upon]
 exact hn
theorem wp_skipv {o:Oper} {a:Act} {w w':World} {next:Act→World→Prop} {Q:Exit→Act→World→Prop}
  (hr:(execOp a.eval o).run P w=.ok .skip w') (hn:next (a.put o.dst undef) w'):o.wp P a w next Q:=by
 simp only [Oper.wp,hr,Oper.upon]
 exact hn
section runs
variable {w:World}
theorem run_und {t:TypeId} {d:TypeDesc} (h:P.underlying t=some d):(underlying t).run P w=.ok d w:=run_underlying h w
theorem run_aggT {t:TypeId} {b:Bool} (h:aggT P t=some b):(isAgg t).run P w=.ok b w∧∃ d,P.underlying t=some d:=by
 unfold aggT at h
 cases hu:P.underlying t with
 | none=>simp [hu] at h
 | some d=>
   refine ⟨?_,d,rfl⟩
   unfold isAgg
   simp only [Sem.run_bind,run_und hu,Result.andThen]
   simp only [hu] at h
   cases d<;>simp_all
theorem run_sizeT {t:TypeId} {i:TypeInfo} (h:P.info? t=some i):(Go.sizeOf t).run P w=.ok (P.cellsOf t) w:=by
 simp [Go.sizeOf,typeInfo,h,Program.cellsOf]
theorem info_of_und {t:TypeId} {d:TypeDesc} (h:P.underlying t=some d):∃ i,P.info? t=some i:=by
 unfold Program.underlying at h
 cases hi:P.info? t with
 | none=>simp [hi] at h
 | some i=>exact ⟨i,rfl⟩
theorem RepCs.load {c:Cx}:∀ {cs:List AV} {b o:Nat},RepCs c cs b o →
  ∃ us:List Value,us.length=cs.length∧(∀ j u,us[j]?=some u→c.w.cell? ⟨b,o+j,none⟩=some u∧u.oneCell'=true)∧RepVs c cs us
 | [],b,o,_=>⟨[],rfl,by simp,by simp [RepVs]⟩
 | x::cs,b,o,h=>by
   simp only [RepCs] at h
   obtain ⟨⟨u,h1,h2,h3,h4⟩,h5⟩:=h
   obtain ⟨us,e1,e2,e3⟩:=RepCs.load h5
   refine ⟨u::us,by simp [e1],?_,?_⟩
   ·intro j v hv
    cases j with
    | zero=>simp at hv;subst hv;exact ⟨h1,h2⟩
    | succ j=>
      simp at hv
      have:=e2 j v hv
      rw [show o+(j+1)=o+1+j from by omega]
      exact this
   ·simp only [RepVs];exact ⟨u,us,rfl,h4,e3⟩
theorem takeN_eq:∀ {n:Nat} {cs l:List AV},takeN n cs=some l→n≤cs.length∧l=cs.take n
 | 0,cs,l,h=>by simp [takeN] at h;subst h;simp
 | n+1,[],l,h=>by simp [takeN] at h
 | n+1,x::cs,l,h=>by
   unfold takeN at h
   cases ht:takeN n cs with
   | none=>simp [ht] at h
   | some m=>
     simp [ht] at h
     obtain ⟨h1,h2⟩:=takeN_eq ht
     subst h2;subst h
     simp;omega
theorem dropN_eq:∀ {n:Nat} {cs l:List AV},dropN n cs=some l→n≤cs.length∧l=cs.drop n
 | 0,cs,l,h=>by simp [dropN] at h;subst h;simp
 | n+1,[],l,h=>by simp [dropN] at h
 | n+1,x::cs,l,h=>by
   unfold dropN at h
   obtain ⟨h1,h2⟩:=dropN_eq h
   subst h2;simp;omega
theorem RepCs.drop {c:Cx}:∀ (n:Nat) {cs:List AV} {b o:Nat},n≤cs.length→RepCs c cs b o→RepCs c (cs.drop n) b (o+n)
 | 0,cs,b,o,_,h=>by simpa using h
 | n+1,[],b,o,hn,h=>by simp at hn
 | n+1,x::cs,b,o,hn,h=>by
   simp only [RepCs] at h
   have:=RepCs.drop n (by simpa using hn) h.2
   simpa [Nat.add_assoc,Nat.add_comm 1 n] using this
theorem RepCs.take {c:Cx}:∀ (n:Nat) {cs:List AV} {b o:Nat},RepCs c cs b o→RepCs c (cs.take n) b o
 | 0,cs,b,o,_=>by simp [RepCs]
 | n+1,[],b,o,_=>by simp [RepCs]
 | n+1,x::cs,b,o,h=>by
   simp only [RepCs,List.take_succ_cons] at h ⊢
   exact ⟨h.1,RepCs.take n h.2⟩
theorem RepVs.length {c:Cx}:∀ {xs:List AV} {us:List Value},RepVs c xs us→us.length=xs.length
 | [],us,h=>by simp [RepVs] at h;subst h;rfl
 | x::xs,us,h=>by
   simp only [RepVs] at h
   obtain ⟨u,r,rfl,_,h2⟩:=h
   simp [RepVs.length h2]
theorem RepVs.drop {c:Cx}:∀ (n:Nat) {xs:List AV} {us:List Value},RepVs c xs us→RepVs c (xs.drop n) (us.drop n)
 | 0,xs,us,h=>by simpa using h
 | n+1,[],us,h=>by simp [RepVs] at h;subst h;simp [RepVs]
 | n+1,x::xs,us,h=>by
   simp only [RepVs] at h
   obtain ⟨u,r,rfl,_,h2⟩:=h
   simpa using RepVs.drop n h2
theorem RepVs.take {c:Cx}:∀ (n:Nat) {xs:List AV} {us:List Value},RepVs c xs us→RepVs c (xs.take n) (us.take n)
 | 0,xs,us,h=>by simp [RepVs]
 | n+1,[],us,h=>by simp [RepVs] at h;subst h;simp [RepVs]
 | n+1,x::xs,us,h=>by
   simp only [RepVs] at h
   obtain ⟨u,r,rfl,h1,h2⟩:=h
   simp only [List.take_succ_cons,RepVs]
   exact ⟨u,_,rfl,h1,RepVs.take n h2⟩
theorem RepVs.append {c:Cx}:∀ {xs ys:List AV} {us vs:List Value},RepVs c xs us→RepVs c ys vs→RepVs c (xs++ys) (us++vs)
 | [],ys,us,vs,h,h'=>by simp [RepVs] at h;subst h;simpa using h'
 | x::xs,ys,us,vs,h,h'=>by
   simp only [RepVs] at h
   obtain ⟨u,r,rfl,h1,h2⟩:=h
   simp only [List.cons_append,RepVs]
   exact ⟨u,_,rfl,h1,RepVs.append h2 h'⟩
theorem run_loadVarU {t:TypeId} {c:Cx} {cs:List AV} {b o:Nat} {us:List Value} (h2:∀ j u,us[j]?=some u→c.w.cell? ⟨b,o+j,none⟩=some u)
  (h1':∀ (j:Nat) (u:Value),us[j]?=some u→u.oneCell'=true) (h3:RepVs c cs us) {K:AV→Prop} (hk:loadI P t cs K) :
  ∃ v u,K v∧Rep c v u∧(loadVar t ⟨b,o,none⟩).run P c.w=.ok u c.w:=by
 unfold loadI at hk
 unfold loadVar
 cases hagg:aggT P t with
 | none=>simp [hagg] at hk
 | some bb=>
 obtain ⟨hrun0,d,hd⟩:=run_aggT (w:=c.w) hagg
 obtain ⟨i,hi⟩:=info_of_und hd
 simp only [Sem.run_bind,hrun0,Result.andThen]
 cases bb with
 | true=>
   simp only [hagg] at hk
   cases ht:takeN (P.cellsOf t) cs with
   | none=>simp [ht] at hk
   | some l=>
     simp only [ht] at hk
     obtain ⟨h1,rfl⟩:=takeN_eq ht
     have hlen:=h3.length
     have hl:(us.take (P.cellsOf t)).length=P.cellsOf t:=by rw [List.length_take];omega
     have hrun:=run_loadCells_list (P:=P) (w:=c.w) ⟨b,o,none⟩ (us.take (P.cellsOf t)) (fun j v hv=>by
      have hj:us[j]?=some v:=by
       rw [List.getElem?_take] at hv
       split at hv
       ·exact hv
       ·cases hv
      have:=h2 j v hj
      cases j with
      | zero=>simpa [Addr.add] using this
      | succ j=>simpa [Addr.add] using this)
     refine ⟨_,.agg (us.take (P.cellsOf t)).toArray,hk,?_,?_⟩
     ·rw [Rep]
      refine ⟨_,rfl,fun u hu=>?_,by simpa using RepVs.take (P.cellsOf t) h3⟩
      obtain ⟨j,hj⟩:=List.mem_iff_getElem?.1 (List.mem_of_mem_take (by simpa using hu))
      exact h1' j u hj
     ·simp only [if_true,run_sizeT hi,Result.andThen,Sem.run_bind]
      rw [hl] at hrun
      simp [hrun]
 | false=>
   simp only [hagg] at hk
   cases cs with
   | nil=>simp at hk
   | cons x cs=>
     simp only [RepVs] at h3
     obtain ⟨u,r,rfl,h4,_⟩:=h3
     have:=h2 0 u (by simp)
     exact ⟨x,u,hk,h4,by simp at this;simp [this]⟩
theorem run_loadVarI {t:TypeId} {c:Cx} {cs:List AV} {b o:Nat} (hcs:RepCs c cs b o) {K:AV→Prop} (hk:loadI P t cs K) :
  ∃ v u,K v∧Rep c v u∧(loadVar t ⟨b,o,none⟩).run P c.w=.ok u c.w:=by
 obtain ⟨us,e1,e2,e3⟩:=RepCs.load hcs
 exact run_loadVarU (fun j u hu=>(e2 j u hu).1) (fun j u hu=>(e2 j u hu).2) e3 hk
theorem vec_cells {c:Cx} {b:Nat} {cs:List AV} (h:ObjRep c b (.vec cs)):∃ p,c.g.pl b=some p∧p.spot=none ∧
  ∃ us:List Value,us.length=cs.length∧(∀ (j:Nat) (u:Value),us[j]?=some u→c.w.cell? ⟨p.block,p.off+j,none⟩=some u)∧(∀ (j:Nat) (u:Value),us[j]?=some u→u.oneCell'=true)∧RepVs c cs us:=by
 obtain ⟨p,cc,t,h1,h2,h3,h4,h5,h6⟩:=h
 refine ⟨p,h1,h2,(cc.toList.drop p.off).take cs.length,by simp;omega,?_,?_,?_⟩
 ·intro j u hu
  rw [List.getElem?_take] at hu
  split at hu
  ·simp only [List.getElem?_drop,Array.getElem?_toList] at hu
   simp [World.cell?,h4,hu]
  ·cases hu
 ·intro j u hu
  rw [List.getElem?_take] at hu
  split at hu
  ·rename_i hj
   obtain ⟨u',e,o1,_⟩:=h6 j cs[j] (by simp [hj])
   simp only [List.getElem?_drop,Array.getElem?_toList] at hu
   rw [e] at hu;cases hu;exact o1
  ·cases hu
 ·clear h3
  have key:∀ (xs:List AV) (l:List Value),xs.length≤l.length→(∀ (i:Nat) (x:AV),xs[i]?=some x→∃ u,l[i]?=some u∧Rep c x u)→RepVs c xs (l.take xs.length):=by
   intro xs
   induction xs with
   | nil=>intro l _ _;simp [RepVs]
   | cons x xs ih=>
     intro l hl hx
     cases l with
     | nil=>simp at hl
     | cons u l=>
       simp only [List.length_cons,List.take_succ_cons,RepVs]
       obtain ⟨u',e,r⟩:=hx 0 x (by simp)
       simp at e;subst e
       exact ⟨u,_,rfl,r,ih l (by simpa using hl) (fun i y hy=>hx (i+1) y (by simpa using hy))⟩
  refine key cs _ (by simp;omega) (fun i x hx=>?_)
  obtain ⟨u,e,_,r⟩:=h6 i x hx
  exact ⟨u,by simp [e],r⟩
theorem arith_ok {c:Cx} {g:G} (he:∀ e∈g,e.2.1=e.2.2) {k:IntKind} {m:Int} {K:AV→Prop} (h:arith g k m K) :
  ∃ v,K v∧Rep c v (.int k (k.wrap m)):=by
 have out:∀ {p:Prop},gP g p→p:=by
  intro p hp
  clear h
  induction g with
  | nil=>exact hp
  | cons e g ih=>exact ih (fun e' h'=>he e' (by simp [h'])) (hp (he e (by simp)))
 unfold arith at h
 cases k with
 | i64=>
   obtain ⟨h1,h2⟩:=h
   have h1:=out h1
   refine ⟨_,h2,?_⟩
   rw [Rep,IntWalk.i64_in _ h1]
   exact ⟨rfl,by constructor<;>simp [IntKind.min,IntKind.max,IntKind.signed,IntKind.bits]<;>omega⟩
 | i32=>
   obtain ⟨h1,h2⟩:=h
   have h1:=out h1
   refine ⟨_,h2,?_⟩
   rw [Rep,IntWalk.i32_in _ h1]
   exact ⟨rfl,by constructor<;>simp [IntKind.min,IntKind.max,IntKind.signed,IntKind.bits]<;>omega⟩
 | _=>
   refine ⟨_,h,?_⟩
   rw [Rep]
   refine ⟨rfl,?_⟩
   constructor<;>simp [IntKind.min,IntKind.max,IntKind.wrap,IntKind.signed,IntKind.bits]<;>(try split)<;>omega
theorem beqd {α:Type} [BEq α] [LawfulBEq α] [DecidableEq α] (a b:α):(a == b)=decide (a=b):=by
 rw [Bool.eq_iff_iff];simp
theorem run_eq_bool {t:TypeId} (h:P.underlying t=some .bool) (a b:Bool):(Op.equal t (.bool a) (.bool b)).run P w=.ok (a == b) w:=by
 show (Op.equalIn (9999+1) t (.bool a) (.bool b)).run P w=_
 unfold Op.equalIn
 simp only [Sem.run_bind,run_und h,Result.andThen]
 rfl
theorem run_eq_nil {t e:TypeId} (h:P.underlying t=some (.slice e)) (b:Option Addr) (n c:Nat):(Op.equal t (.slice b n c) (.slice none 0 0)).run P w=.ok b.isNone w:=by
 show (Op.equalIn (9999+1) t (.slice b n c) (.slice none 0 0)).run P w=_
 unfold Op.equalIn
 simp only [Sem.run_bind,run_und h,Result.andThen]
 cases b<;>rfl
theorem run_eq_ptr {t e:TypeId} (h:P.underlying t=some (.pointer e)) (b:Option Addr):(Op.equal t (.pointer b) (.pointer none)).run P w=.ok b.isNone w:=by
 show (Op.equalIn (9999+1) t (.pointer b) (.pointer none)).run P w=_
 unfold Op.equalIn
 simp only [Sem.run_bind,run_und h,Result.andThen]
 cases b<;>rfl
theorem run_eqGuard {op:BinOp} {t:TypeId} {x y:Operand} {u v:Value} (h:∀ cs,u≠.agg cs) (h':u≠.nilIface):(eqGuard op t x y u v).run P w=.ok () w:=by
 unfold eqGuard
 cases op<;>simp<;>cases u<;>simp_all
end runs
theorem EntsRep.mono {c c':Cx} (hc:Cx.Le c c'):∀ {es:List (AV × AV)} {ents:List MapEntry},EntsRep c es ents→EntsRep c' es ents
 | [],_,h=>h
 | x::xs,es,h=>by
   obtain ⟨e,r,rfl,h1,h2,h3⟩:=h
   exact ⟨e,r,rfl,Rep.mono hc _ _ h1,Rep.mono hc _ _ h2,EntsRep.mono hc h3⟩
theorem ObjRep.keep {c c':Cx} (hc:Cx.Le c c') {k:Nat} {o:Ob} (h:ObjRep c k o)
  (hb:∀ p,c.g.pl k=some p→(∃ s,c.g.ow p.block=some (k,s))→c'.w.heap[p.block]?=c.w.heap[p.block]?∧c'.g.ow p.block=c.g.ow p.block)
  (hn:c.g.pl k=none→c'.g.pl k=none):ObjRep c' k o:=by
 cases o with
 | vec cs=>
   obtain ⟨p,cc,t,h1,h2,h3,h4,h5,h6⟩:=h
   obtain ⟨e1,e2⟩:=hb p h1 ⟨_,h3⟩
   exact ⟨p,cc,t,hc.pl _ _ h1,h2,e2.trans h3,e1.trans h4,h5,fun i x hx=>let ⟨u,a,b,r⟩:=h6 i x hx;⟨u,a,b,Rep.mono hc _ _ r⟩⟩
 | tok=>
   intro p hp
   cases hq:c.g.pl k with
   | none=>rw [hn hq] at hp;cases hp
   | some q=>
     have:=hc.pl _ _ hq
     rw [this] at hp;cases hp
     obtain ⟨h1,h2,h3⟩:=h p hq
     obtain ⟨e1,e2⟩:=hb p hq ⟨_,h2⟩
     exact ⟨h1,e2.trans h2,by rw [e1];exact h3⟩
 | map es=>
   obtain ⟨p,cl,ents,h1,h2,h3,h4,h5,h6⟩:=h
   obtain ⟨e1,e2⟩:=hb p h1 ⟨_,h2⟩
   exact ⟨p,cl,ents,hc.pl _ _ h1,e2.trans h2,e1.trans h3,EntsRep.mono hc h4,h5,h6⟩
 | rmap es bs cl=>
   obtain ⟨p,ents,h1,h2,h3,h4,h5,h6⟩:=h
   obtain ⟨e1,e2⟩:=hb p h1 ⟨_,h2⟩
   exact ⟨p,ents,hc.pl _ _ h1,e2.trans h2,e1.trans h3,EntsRep.mono hc h4,h5,h6⟩
 | iter m cl seen=>
   obtain ⟨p,pm,sa,h1,h2,h3,h4,h5⟩:=h
   obtain ⟨e1,e2⟩:=hb p h1 ⟨_,h2⟩
   exact ⟨p,pm,sa,hc.pl _ _ h1,e2.trans h2,e1.trans h3,hc.pl _ _ h4,h5⟩
 | siter s pos=>
   obtain ⟨p,b,h1,h2,h3,h4,h5⟩:=h
   obtain ⟨e1,e2⟩:=hb p h1 ⟨_,h2⟩
   exact ⟨p,b,hc.pl _ _ h1,e2.trans h2,e1.trans h3,h4,h5⟩
theorem heap_alloc_lt (w:World) (o:Obj) {b:Nat} (h:b<w.heap.size):(w.alloc o).heap[b]?=w.heap[b]?:=by
 simp only [World.alloc,Array.getElem?_push]
 rw [if_neg (by omega)]
theorem CW.alloc {X:Nat→Prop} {g:Gh} {h:Heap} {w:World} (hc:CW X g h w) (o:Obj):CW X g h (w.alloc o)∧Step X g h w g h (w.alloc o):=by
 have hs:Step X g h w g h (w.alloc o):=by
  refine ⟨rfl,⟨rfl,Nat.le_refl _⟩,rfl,by simp,fun _ _ e=>e,fun _ _ _ e _=>e,fun _ _ _ e _=>e,fun _ _ e=>e,fun b hb e=>⟨heap_alloc_lt w o hb,e⟩,?_,?_⟩
  ·intro b k s ho hk cc t f hcc
   exact ⟨cc,(heap_alloc_lt w o (hc.own _ _ _ ho)).trans hcc,rfl,fun _ _=>rfl⟩
  ·intro b k s e _ k' s' e' _
   rw [e] at e';cases e';exact Nat.le_refl _
 refine ⟨⟨fun b k s e=>Nat.lt_of_lt_of_le (hc.own b k s e) hs.size,hc.bound,hc.nodup,hc.sep,fun k ob hk=>?_⟩,hs⟩
 refine ObjRep.keep (Step.le hs) (hc.obj k ob hk) (fun p hp ⟨s,ho⟩=>⟨heap_alloc_lt w o (hc.own _ _ _ ho),rfl⟩) (fun e=>e)
theorem CW.drew {X:Nat→Prop} {g:Gh} {h:Heap} {w:World} (hc:CW X g h w):CW X g h w.drew∧Step X g h w g h w.drew:=by
 have hs:Step X g h w g h w.drew:=⟨rfl,⟨rfl,Nat.le_succ _⟩,rfl,Nat.le_refl _,fun _ _ e=>e,fun _ _ _ e _=>e,fun _ _ _ e _=>e,fun _ _ e=>e,fun b hb e=>⟨rfl,e⟩,
  fun b k s ho hk cc t f hcc=>⟨cc,hcc,rfl,fun _ _=>rfl⟩,fun b k s e _ k' s' e' _=>by rw [e] at e';cases e';exact Nat.le_refl _⟩
 exact ⟨⟨hc.own,hc.bound,hc.nodup,hc.sep,fun k ob hk=>ObjRep.keep (Step.le hs) (hc.obj k ob hk) (fun p hp ho=>⟨rfl,rfl⟩) (fun e=>e)⟩,hs⟩
theorem RepCs.new {X:Nat→Prop} {g:Gh} {h:Heap} {w:World} (hc:CW X g h w) {cs:List AV} {us:Array Value} {t:TypeId}
  (hr:RepVs ⟨g,live X h,w⟩ cs us.toList) (h1:∀ u∈us,u.oneCell'=true):RepCs ⟨g,live X h,w.alloc (.cells us t)⟩ cs w.heap.size 0:=by
 have hs:=(hc.alloc (.cells us t)).2
 have key:∀ (cs:List AV) (l:List Value) (o:Nat),RepVs ⟨g,live X h,w⟩ cs l→(∀ j u,l[j]?=some u→us[o+j]?=some u) →
   RepCs ⟨g,live X h,w.alloc (.cells us t)⟩ cs w.heap.size o:=by
  intro cs
  induction cs with
  | nil=>intros;simp [RepCs]
  | cons x cs ih=>
    intro l o hv hl
    simp only [RepVs] at hv
    obtain ⟨u,r,rfl,h2,h3⟩:=hv
    simp only [RepCs]
    have hu:us[o]?=some u:=by simpa using hl 0 u (by simp)
    refine ⟨⟨u,by simp [hu],h1 u (Array.mem_of_getElem? hu),?_,Rep.mono (Step.le hs) _ _ h2⟩,ih r (o+1) h3 (fun j v hv=>?_)⟩
    ·intro k s ho _
     exact absurd (hc.own _ _ _ ho) (Nat.lt_irrefl _)
    ·have:=hl (j+1) v (by simpa using hv)
     rw [show o+1+j=o+(j+1) from by omega];exact this
 exact key cs us.toList 0 hr (by intro j u hu;simpa using hu)
end Go.Abs
/-
 The abstract layer,part C2: equality of plain values and of structs of them;keys.
-/
set_option linter.unusedSimpArgs false
namespace Go.Abs
open Go
variable {P:Program} {w:World}
theorem sameK_eq {k k':IntKind} (h:sameK k k'=true):k=k':=by
 cases k<;>cases k'<;>first|rfl|(simp [sameK] at h)
theorem eqS_ok {c:Cx} {t:TypeId} {x y:AV} {u v:Value} {b:Bool} (h:eqS P t x y=some b) (hu:Rep c x u) (hv:Rep c y v) (d:Nat) :
  (Op.equalIn (d+1) t u v).run P w=.ok b w∧aggT P t=some false∧(∀ fs,P.underlying t≠some (.struct fs))∧(Op.eqGuardIn (d+1) t u v).run P w=.ok false w:=by
 unfold eqS at h
 split at h
 ·rename_i k1 k a k' b' hty
  split at h<;>try contradiction
  rename_i hk
  have hk:=sameK_eq hk
  subst hk
  cases h
  rw [Rep] at hu hv
  obtain ⟨rfl,_⟩:=hu;obtain ⟨rfl,_⟩:=hv
  refine ⟨?_,by simp [aggT,hty],by simp [hty],?_⟩
  ·simp [Op.equalIn,run_und hty,beqd]
  ·simp [Op.eqGuardIn,run_und hty]
 ·rename_i a b' hty
  cases h
  rw [Rep] at hu hv
  obtain ⟨b,rfl,rfl,_⟩:=hu;obtain ⟨b',rfl,rfl,_⟩:=hv
  refine ⟨?_,by simp [aggT,hty],by simp [hty],?_⟩
  ·have e:(b == b')=decide (b.data.toList=b'.data.toList):=by
    rw [Bool.eq_iff_iff]
    obtain ⟨⟨l⟩⟩:=b
    obtain ⟨⟨l'⟩⟩:=b'
    show ((Array.mk l) == (Array.mk l'))=true↔_
    simp
   simp only [Op.equalIn,run_und hty,Sem.run_bind,Result.andThen,Sem.run_pure,e]
  ·simp [Op.eqGuardIn,run_und hty]
 ·rename_i a b' hty
  cases h
  rw [Rep] at hu hv
  subst hu;subst hv
  refine ⟨?_,by simp [aggT,hty],by simp [hty],?_⟩
  ·simp [Op.equalIn,run_und hty,beqd]
  ·simp [Op.eqGuardIn,run_und hty]
 ·cases h
theorem RepVs.get {c:Cx}:∀ {xs:List AV} {us:List Value},RepVs c xs us→∀ (i:Nat) (x:AV),xs[i]?=some x→∃ u,us[i]?=some u∧Rep c x u
 | [],us,h,i,x,hx=>by simp at hx
 | y::xs,us,h,i,x,hx=>by
   simp only [RepVs] at h
   obtain ⟨u,r,rfl,h1,h2⟩:=h
   cases i with
   | zero=>simp at hx;subst hx;exact ⟨u,by simp,h1⟩
   | succ i=>exact RepVs.get h2 i x (by simpa using hx)
theorem run_part {t:TypeId} {cs:Array Value} {off:Nat} {u:Value} (hag:aggT P t=some false) (h:cs[off]?=some u):(part t cs off).run P w=.ok u w:=by
 obtain ⟨hrun,_⟩:=run_aggT (w:=w) hag
 simp [part,hrun,h]
theorem run_eqFields {c:Cx} {d:Nat} {us vs:Array Value}:∀ {fs:List Field} {i:Nat} {xs ys:List AV} {b:Bool},eqF P i fs xs ys=some b→fs.all (fun f=>!(f.name == "_"))=true →
  (∀ j x,xs[j]?=some x→∃ u,us[i+j]?=some u∧Rep c x u)→(∀ j x,ys[j]?=some x→∃ u,vs[i+j]?=some u∧Rep c x u) →
  (Op.eqFields (d+1) us vs fs).run P w=.ok b w
 | [],i,xs,ys,b,h,hn,hx,hy=>by
   cases xs<;>cases ys<;>simp [eqF] at h
   subst h
   simp [Op.eqFields]
 | f::fs,i,[],ys,b,h,hn,hx,hy=>by simp [eqF] at h
 | f::fs,i,x::xs,[],b,h,hn,hx,hy=>by simp [eqF] at h
 | f::fs,i,x::xs,y::ys,b,h,hn,hx,hy=>by
   unfold eqF at h
   split at h<;>try contradiction
   rename_i hoff
   split at h<;>try contradiction
   rename_i b1 h1
   split at h<;>try contradiction
   rename_i b2 h2
   cases h
   have hoff:=Nat.eq_of_beq_eq_true hoff
   obtain ⟨u,hu,hru⟩:=hx 0 x (by simp)
   obtain ⟨v,hv,hrv⟩:=hy 0 y (by simp)
   simp only [Nat.add_zero,← hoff] at hu hv
   obtain ⟨e1,e2,_,_⟩:=eqS_ok (w:=w) h1 hru hrv d
   simp only [List.all_cons,Bool.and_eq_true,Bool.not_eq_true',beq_eq_false_iff_ne] at hn
   have ih:=run_eqFields (d:=d) h2 (by simpa using hn.2)
    (fun j z hz=>by have:=hx (j+1) z (by simpa using hz);rwa [show i+1+j=i+(j+1) from by omega])
    (fun j z hz=>by have:=hy (j+1) z (by simpa using hz);rwa [show i+1+j=i+(j+1) from by omega])
   unfold Op.eqFields
   cases b1 with
   | false=>simp [hn.1,run_part e2 hu,run_part e2 hv,e1]
   | true=>simp [hn.1,run_part e2 hu,run_part e2 hv,e1,ih]
theorem run_eqItems {c:Cx} {d:Nat} {e:TypeId} {us vs:Array Value}:∀ {i:Nat} {xs ys:List AV} {b:Bool},eqA P e xs ys=some b →
  (∀ j x,xs[j]?=some x→∃ u,us[i+j]?=some u∧Rep c x u)→(∀ j x,ys[j]?=some x→∃ u,vs[i+j]?=some u∧Rep c x u) →
  (Op.eqItems (d+1) e 1 us vs (List.range' i xs.length)).run P w=.ok b w
 | i,[],ys,b,h,hx,hy=>by
   cases ys<;>simp [eqA] at h
   subst h
   simp [Op.eqItems]
 | i,x::xs,[],b,h,hx,hy=>by simp [eqA] at h
 | i,x::xs,y::ys,b,h,hx,hy=>by
   unfold eqA at h
   split at h<;>try contradiction
   rename_i b1 h1
   split at h<;>try contradiction
   rename_i b2 h2
   cases h
   obtain ⟨u,hu,hru⟩:=hx 0 x (by simp)
   obtain ⟨v,hv,hrv⟩:=hy 0 y (by simp)
   simp only [Nat.add_zero] at hu hv
   obtain ⟨e1,e2,_,_⟩:=eqS_ok (w:=w) h1 hru hrv d
   have ih:=run_eqItems (d:=d) h2
    (fun j z hz=>by have:=hx (j+1) z (by simpa using hz);rwa [show i+1+j=i+(j+1) from by omega])
    (fun j z hz=>by have:=hy (j+1) z (by simpa using hz);rwa [show i+1+j=i+(j+1) from by omega])
   rw [List.length_cons,List.range'_succ]
   unfold Op.eqItems
   cases b1 with
   | false=>simp [run_part e2 hu,run_part e2 hv,e1]
   | true=>simp [run_part e2 hu,run_part e2 hv,e1,ih]
theorem eqV_ok {c:Cx} {t:TypeId} {x y:AV} {u v:Value} {b:Bool} (h:eqV P t x y=some b) (hp:plainT P t=true) (hu:Rep c x u) (hv:Rep c y v) (d:Nat) :
  (Op.equalIn (d+2) t u v).run P w=.ok b w∧((∃ us vs,u=.agg us∧v=.agg vs∧P.eqGuardType P.depth t=false∧aggT P t=some true)∨eqS P t x y=some b):=by
 unfold eqV at h
 split at h
 ·rename_i fs hty
  split at h<;>try contradiction
  rename_i xs ys
  simp only [plainT,hty,Bool.and_eq_true,Bool.not_eq_true'] at hp
  rw [Rep] at hu hv
  obtain ⟨us,rfl,_,hus⟩:=hu
  obtain ⟨vs,rfl,_,hvs⟩:=hv
  have hf:P.fieldsOf t=fs:=by simp [Program.fieldsOf,hty]
  refine ⟨?_,.inl ⟨us,vs,rfl,rfl,hp.2,by simp [aggT,hty]⟩⟩
  rw [run_equalIn_struct w (d+1) t us vs (by rw [hf];exact hty) hp.1.2,hf]
  exact run_eqFields h hp.1.1 (fun j z hz=>by obtain ⟨u,h1,h2⟩:=hus.get j z hz;exact ⟨u,by simpa using h1,h2⟩)
   (fun j z hz=>by obtain ⟨u,h1,h2⟩:=hvs.get j z hz;exact ⟨u,by simpa using h1,h2⟩)
 ·rename_i n e hty
  split at h<;>try contradiction
  rename_i xs ys
  split at h<;>try contradiction
  rename_i ie hl hc1 hie
  simp only [plainT,hty,Bool.not_eq_true'] at hp
  have hl:=Nat.eq_of_beq_eq_true hl
  have hc1:=Nat.eq_of_beq_eq_true hc1
  rw [Rep] at hu hv
  obtain ⟨us,rfl,_,hus⟩:=hu
  obtain ⟨vs,rfl,_,hvs⟩:=hv
  refine ⟨?_,.inl ⟨us,vs,rfl,rfl,hp,by simp [aggT,hty]⟩⟩
  rw [run_equalIn_array (w:=w) (d+1) us vs hty hie,hc1,← hl,List.range_eq_range']
  exact run_eqItems h (fun j z hz=>by obtain ⟨u,h1,h2⟩:=hus.get j z hz;exact ⟨u,by simpa using h1,h2⟩)
   (fun j z hz=>by obtain ⟨u,h1,h2⟩:=hvs.get j z hz;exact ⟨u,by simpa using h1,h2⟩)
 ·exact ⟨(eqS_ok h hu hv (d+1)).1,.inr h⟩
 ·cases h
end Go.Abs
/-
 The abstract layer,part C3: maps.
-/
namespace Go.Abs
open Go
variable {P:Program} {w:World}
theorem checkKey_scal {t:TypeId} {x:AV} {u:Value} {b:Bool} {y:AV} (h:eqS P t x y=some b) (e:Bool) (n:Nat):(Instr.checkKey e (n+1) t u).run P w=.ok () w:=by
 unfold eqS at h
 split at h
 ·rename_i hty;simp [Instr.checkKey,run_und hty]
 ·rename_i hty;simp [Instr.checkKey,run_und hty]
 ·rename_i hty;simp [Instr.checkKey,run_und hty]
 ·cases h
theorem run_checkFields {c:Cx} {n:Nat} {em:Bool} {us:Array Value}:∀ {fs:List Field} {i:Nat} {xs:List AV},eqF P i fs xs xs=some true →
  (∀ j x,xs[j]?=some x→∃ u,us[i+j]?=some u∧Rep c x u) →
  (forIn (m:=Sem) fs PUnit.unit fun f (r:PUnit)=>(if f.name ≠ "_" then do
     Instr.checkKey em (n+1) f.type (← part f.type us f.offset)
     pure (ForInStep.yield PUnit.unit) else pure (ForInStep.yield PUnit.unit):Sem (ForInStep PUnit))).run P w=.ok PUnit.unit w
 | [],i,xs,h,hx=>by simp
 | f::fs,i,[],h,hx=>by simp [eqF] at h
 | f::fs,i,x::xs,h,hx=>by
   unfold eqF at h
   split at h<;>try contradiction
   rename_i hoff
   split at h<;>try contradiction
   rename_i b1 h1
   split at h<;>try contradiction
   rename_i b2 h2
   have hoff:=Nat.eq_of_beq_eq_true hoff
   have hb:b2=true:=by cases b1<;>cases b2<;>simp_all
   subst hb
   obtain ⟨u,hu,hru⟩:=hx 0 x (by simp)
   simp only [Nat.add_zero,← hoff] at hu
   obtain ⟨e1,e2,_,_⟩:=eqS_ok (w:=w) h1 hru hru 0
   have ih:=run_checkFields (n:=n) (em:=em) h2
    (fun j z hz=>by have:=hx (j+1) z (by simpa using hz);rwa [show i+1+j=i+(j+1) from by omega])
   rw [List.forIn_cons]
   by_cases hn:f.name = "_"
   ·simp [hn];simpa using ih
   ·simp [hn,run_part e2 hu,checkKey_scal h1];simpa using ih
theorem run_checkItems {c:Cx} {n:Nat} {em:Bool} {e:TypeId} {ie:TypeInfo} {us:Array Value} (hie:P.info? e=some ie) (h1:ie.size=1):∀ {xs:List AV} {i:Nat},eqA P e xs xs=some true →
  (∀ j x,xs[j]?=some x→∃ u,us[i+j]?=some u∧Rep c x u) →
  (forIn (m:=Sem) (List.range' i xs.length) PUnit.unit fun i (r:PUnit)=>(do
     Instr.checkKey em (n+1) e (← part e us (i*(← sizeOf e)))
     pure (ForInStep.yield PUnit.unit):Sem (ForInStep PUnit))).run P w=.ok PUnit.unit w
 | [],i,h,hx=>by simp
 | x::xs,i,h,hx=>by
   unfold eqA at h
   split at h<;>try contradiction
   rename_i b1 hb1
   split at h<;>try contradiction
   rename_i b2 hb2
   have hb:b2=true:=by cases b1<;>cases b2<;>simp_all
   subst hb
   obtain ⟨u,hu,hru⟩:=hx 0 x (by simp)
   simp only [Nat.add_zero] at hu
   obtain ⟨e1,e2,_,_⟩:=eqS_ok (w:=w) hb1 hru hru 0
   have ih:=run_checkItems (n:=n) (em:=em) hie h1 hb2
    (fun j z hz=>by have:=hx (j+1) z (by simpa using hz);rwa [show i+1+j=i+(j+1) from by omega])
   rw [List.length_cons,List.range'_succ,List.forIn_cons]
   have hs:(sizeOf e).run P w=.ok 1 w:=by simp [sizeOf,typeInfo,hie,h1]
   simp [hs,run_part e2 hu,checkKey_scal hb1]
   simpa using ih
theorem run_checkKey' {c:Cx} {t:TypeId} {k:AV} {u:Value} (hk:keyFits P t k) (hu:Rep c k u) (em:Bool) (n:Nat):(Instr.checkKey em (n+2) t u).run P w=.ok () w:=by
 obtain ⟨hp,he⟩:=hk
 unfold eqV at he
 split at he
 ·rename_i fs hty
  split at he<;>try contradiction
  rename_i xs ys _ _
  rw [Rep] at hu
  obtain ⟨us,rfl,_,hus⟩:=hu
  rw [Instr.checkKey]
  simp only [Sem.run_bind,run_und hty,Result.andThen_ok]
  rw [← Array.forIn_toList]
  have:=run_checkFields (c:=c) (P:=P) (w:=w) (n:=n) (em:=em) (us:=us) he (fun j z hz=>by obtain ⟨u,h1,h2⟩:=hus.get j z hz;exact ⟨u,by simpa using h1,h2⟩)
  simp at this ⊢
  rw [this];rfl
 ·rename_i m e hty
  split at he<;>try contradiction
  rename_i xs ys _ _
  split at he<;>try contradiction
  rename_i ie hl hc1 hie
  have hl:=Nat.eq_of_beq_eq_true hl
  have hc1:=Nat.eq_of_beq_eq_true hc1
  rw [Rep] at hu
  obtain ⟨us,rfl,_,hus⟩:=hu
  rw [Instr.checkKey]
  simp only [Sem.run_bind,run_und hty,Result.andThen_ok]
  simp only [Std.Legacy.Range.forIn_eq_forIn_range',Std.Legacy.Range.size,Nat.sub_zero,Nat.add_one_sub_one,Nat.div_one]
  have:=run_checkItems (c:=c) (P:=P) (w:=w) (n:=n) (em:=em) (us:=us) hie (by simpa [Program.cellsOf,hie] using hc1) (i:=0) he (fun j z hz=>by obtain ⟨u,h1,h2⟩:=hus.get j z hz;exact ⟨u,by simpa using h1,h2⟩)
  rw [← hl]
  simp at this ⊢
  rw [this];rfl
 ·exact checkKey_scal he em (n+1)
 ·cases he
theorem sameBits_scal {c:Cx} {t:TypeId} {x y:AV} {u v:Value} (h:eqS P t x y=some true) (hu:Rep c x u) (hv:Rep c y v) (n:Nat):Instr.sameBits n v u=true:=by
 unfold eqS at h
 split at h
 ·split at h<;>try contradiction
  rename_i hk
  have hk:=sameK_eq hk
  subst hk
  simp at h
  subst h
  rw [Rep] at hu hv
  obtain ⟨rfl,_⟩:=hu;obtain ⟨rfl,_⟩:=hv
  unfold Instr.sameBits;simp
 ·simp at h
  subst h
  rw [Rep] at hu hv
  obtain ⟨b,rfl,rfl,_⟩:=hu;obtain ⟨b',rfl,hb,_⟩:=hv
  have:b'=b:=by obtain ⟨⟨l⟩⟩:=b;obtain ⟨⟨l'⟩⟩:=b';simp at hb;subst hb;rfl
  subst this
  unfold Instr.sameBits
  rw [beq_toListBytes];simp
 ·simp at h
  subst h
  rw [Rep] at hu hv
  subst hu;subst hv
  unfold Instr.sameBits;simp
 ·cases h
theorem sameBits_F {c:Cx} {n:Nat}:∀ {fs:List Field} {i:Nat} {xs ys:List AV} {us vs:List Value},eqF P i fs xs ys=some true→RepVs c xs us→RepVs c ys vs →
  us.length=vs.length∧((vs.zip us).all fun (x,y)=>Instr.sameBits n x y)=true
 | [],i,xs,ys,us,vs,h,hx,hy=>by
   cases xs<;>cases ys<;>simp [eqF] at h
   simp [RepVs] at hx hy;subst hx;subst hy;simp
 | f::fs,i,[],ys,us,vs,h,hx,hy=>by simp [eqF] at h
 | f::fs,i,x::xs,[],us,vs,h,hx,hy=>by simp [eqF] at h
 | f::fs,i,x::xs,y::ys,us,vs,h,hx,hy=>by
   unfold eqF at h
   split at h<;>try contradiction
   split at h<;>try contradiction
   rename_i b1 h1
   split at h<;>try contradiction
   rename_i b2 h2
   have hb:b1=true∧b2=true:=by cases b1<;>cases b2<;>simp_all
   obtain ⟨rfl,rfl⟩:=hb
   simp only [RepVs] at hx hy
   obtain ⟨u,r,rfl,a1,a2⟩:=hx
   obtain ⟨v,s,rfl,b1,b2⟩:=hy
   obtain ⟨e1,e2⟩:=sameBits_F (n:=n) h2 a2 b2
   simp only [List.length_cons,List.zip_cons_cons,List.all_cons,sameBits_scal h1 a1 b1,e2,Bool.and_self,and_true]
   omega
theorem sameBits_A {c:Cx} {n:Nat} {e:TypeId}:∀ {xs ys:List AV} {us vs:List Value},eqA P e xs ys=some true→RepVs c xs us→RepVs c ys vs →
  us.length=vs.length∧((vs.zip us).all fun (x,y)=>Instr.sameBits n x y)=true
 | [],ys,us,vs,h,hx,hy=>by
   cases ys<;>simp [eqA] at h
   simp [RepVs] at hx hy;subst hx;subst hy;simp
 | x::xs,[],us,vs,h,hx,hy=>by simp [eqA] at h
 | x::xs,y::ys,us,vs,h,hx,hy=>by
   unfold eqA at h
   split at h<;>try contradiction
   rename_i b1 h1
   split at h<;>try contradiction
   rename_i b2 h2
   have hb:b1=true∧b2=true:=by cases b1<;>cases b2<;>simp_all
   obtain ⟨rfl,rfl⟩:=hb
   simp only [RepVs] at hx hy
   obtain ⟨u,r,rfl,a1,a2⟩:=hx
   obtain ⟨v,s,rfl,b1,b2⟩:=hy
   obtain ⟨e1,e2⟩:=sameBits_A (n:=n) h2 a2 b2
   simp only [List.length_cons,List.zip_cons_cons,List.all_cons,sameBits_scal h1 a1 b1,e2,Bool.and_self,and_true]
   omega
theorem sameBits_V {c:Cx} {t:TypeId} {x y:AV} {u v:Value} (h:eqV P t x y=some true) (hu:Rep c x u) (hv:Rep c y v) (n:Nat):Instr.sameBits (n+1) v u=true:=by
 unfold eqV at h
 split at h
 ·split at h<;>try contradiction
  rw [Rep] at hu hv
  obtain ⟨us,rfl,_,hus⟩:=hu
  obtain ⟨vs,rfl,_,hvs⟩:=hv
  obtain ⟨e1,e2⟩:=sameBits_F (n:=n) h hus hvs
  simp at e1
  unfold Instr.sameBits
  simp only [Bool.and_eq_true,beq_iff_eq]
  exact ⟨e1.symm,e2⟩
 ·split at h<;>try contradiction
  split at h<;>try contradiction
  rw [Rep] at hu hv
  obtain ⟨us,rfl,_,hus⟩:=hu
  obtain ⟨vs,rfl,_,hvs⟩:=hv
  obtain ⟨e1,e2⟩:=sameBits_A (n:=n) h hus hvs
  simp at e1
  unfold Instr.sameBits
  simp only [Bool.and_eq_true,beq_iff_eq]
  exact ⟨e1.symm,e2⟩
 ·exact sameBits_scal h hu hv _
 ·cases h
theorem sameNow_scal {c:Cx} {t:TypeId} {d:TypeDesc} {x y:AV} {u v:Value} {b q:Bool} (ht:P.underlying t=some d) (h:eqV P t x y=some b) (hu:Rep c x u) (hv:Rep c y v) (hq:Instr.sameNow d u v=some q):q=b:=by
 unfold eqV at h
 rw [ht] at h
 split at h
 ·rename_i fs hty
  cases hty
  split at h<;>contradiction
 ·rename_i n e hty
  cases hty
  split at h<;>contradiction
 ·unfold eqS at h
  rw [ht] at h
  split at h
  ·rename_i hty
   cases hty
   split at h<;>try contradiction
   rename_i hk
   have hk:=sameK_eq hk
   subst hk
   cases h
   rw [Rep] at hu hv
   obtain ⟨rfl,_⟩:=hu;obtain ⟨rfl,_⟩:=hv
   simp [Instr.sameNow] at hq
   rw [← hq,beqd]
  ·rename_i hty
   cases hty
   cases h
   rw [Rep] at hu hv
   obtain ⟨b,rfl,rfl,_⟩:=hu;obtain ⟨b',rfl,rfl,_⟩:=hv
   simp only [Instr.sameNow] at hq
   cases hq
   rw [Bool.eq_iff_iff]
   obtain ⟨⟨l⟩⟩:=b
   obtain ⟨⟨l'⟩⟩:=b'
   show ((Array.mk l) == (Array.mk l'))=true↔_
   simp
  ·rename_i hty
   cases hty
   cases h
   rw [Rep] at hu hv
   subst hu;subst hv
   simp only [Instr.sameNow] at hq
   cases hq
   rw [beqd]
  ·cases h
 ·cases h
theorem find_ok {c:Cx} {t:TypeId} {d:TypeDesc} {k:AV} {u:Value} (ht:P.underlying t=some d) (hp:plainT P t=true) (hu:Rep c k u) :
  ∀ {es:List (AV × AV)} {ents:List MapEntry} {r:Option AV} (i:Nat),EntsRep c es ents→mget P t k es=some r →
  ∃ res,(Instr.findAsking t u ents i).run P w=.ok res w∧(∀ q,Instr.findNow d u ents i=some q→q=res) ∧
   (match r with
    | none=>res=none∧∀ v',mset P t k v' es=es++[(k,v')]
    | some v=>∃ j e,res=some (i+j,e.val)∧ents[j]?=some e∧Rep c v e.val∧Instr.sameBits 10000 e.key u=true ∧
       ∀ (v':AV) (uv:Value),Rep c v' uv→EntsRep c (mset P t k v' es) (ents.modify j fun e=>{ e with key:=u,val:=uv }))
 | [],ents,r,i,he,hm=>by
   simp [EntsRep] at he
   subst he
   simp [mget] at hm
   subst hm
   exact ⟨none,by simp [Instr.findAsking],by simp [Instr.findNow],rfl,fun v'=>rfl⟩
 | (x,v)::es,ents,r,i,he,hm=>by
   obtain ⟨e,rest,rfl,h1,h2,h3⟩:=he
   simp only at h1 h2
   unfold mget at hm
   split at hm
   ·rename_i heq
    cases hm
    obtain ⟨hrun,_⟩:=eqV_ok (w:=w) heq hp hu h1 9998
    refine ⟨some (i,e.val),?_,?_,0,e,rfl,by simp,h2,sameBits_V heq hu h1 9999,?_⟩
    ·simp [Instr.findAsking,Op.equal,Op.maxDepth,hrun]
    ·intro q hq
     unfold Instr.findNow at hq
     split at hq
     ·cases hq;rfl
     ·rename_i hs
      have:=sameNow_scal ht heq hu h1 hs
      cases this
     ·cases hq
    ·intro v' uv hv'
     simp only [mset,heq]
     exact ⟨{ e with key:=u,val:=uv },rest,rfl,hu,hv',h3⟩
   ·rename_i heq
    obtain ⟨hrun,_⟩:=eqV_ok (w:=w) heq hp hu h1 9998
    obtain ⟨res,r1,r2,r3⟩:=find_ok ht hp hu (i+1) h3 hm
    refine ⟨res,?_,?_,?_⟩
    ·simp [Instr.findAsking,Op.equal,Op.maxDepth,hrun,r1]
    ·intro q hq
     unfold Instr.findNow at hq
     split at hq
     ·rename_i hs
      have:=sameNow_scal ht heq hu h1 hs
      cases this
     ·exact r2 q hq
     ·cases hq
    ·cases r with
     | none=>
       refine ⟨r3.1,fun v'=>?_⟩
       simp only [mset,heq,r3.2 v',List.cons_append]
     | some v0=>
       obtain ⟨j,e',q1,q2,q3,q4,q5⟩:=r3
       refine ⟨j+1,e',by rw [q1];congr 2;omega,by simpa using q2,q3,q4,fun v' uv hv'=>?_⟩
       simp only [mset,heq]
       exact ⟨e,_,by simp [List.modify],h1,h2,q5 v' uv hv'⟩
   ·cases hm
theorem run_findKey' {c:Cx} {t:TypeId} {k:AV} {u:Value} (hk:keyFits P t k) (hu:Rep c k u) {es:List (AV × AV)} {ents:Array MapEntry} {r:Option AV} (he:EntsRep c es ents.toList) (hm:mget P t k es=some r) :
  ∃ res,(Instr.findKey t u ents.toList).run P w=.ok res w ∧
   (match r with
    | none=>res=none∧∀ v',mset P t k v' es=es++[(k,v')]
    | some v=>∃ j e,res=some (j,e.val)∧ents[j]?=some e∧Rep c v e.val∧Instr.sameBits 10000 e.key u=true ∧
       ∀ (v':AV) (uv:Value),Rep c v' uv→EntsRep c (mset P t k v' es) (ents.modify j fun e=>{ e with key:=u,val:=uv }).toList):=by
 have hty:∃ d,P.underlying t=some d:=by
  have:=hk.2
  unfold eqV at this
  cases hd:P.underlying t with
  | none=>simp [hd] at this
  | some d=>exact ⟨d,rfl⟩
 obtain ⟨d,hd⟩:=hty
 obtain ⟨res,r1,r2,r3⟩:=find_ok (w:=w) hd hk.1 hu 0 he hm
 refine ⟨res,?_,?_⟩
 ·unfold Instr.findKey
  simp only [Sem.run_bind,run_und hd,Result.andThen_ok]
  split
  ·rename_i q hq
   rw [r2 q hq];simp
  ·exact r1
 ·cases r with
  | none=>exact r3
  | some v=>
    obtain ⟨j,e,q1,q2,q3,q4,q5⟩:=r3
    refine ⟨j,e,by simpa using q1,by simpa using q2,q3,q4,fun v' uv hv'=>?_⟩
    rw [Array.toList_modify]
    exact q5 v' uv hv'
theorem and_mask {a:Int} (h0:0≤a) (h1:a<4294967296):IntKind.u64.wrap ((BitVec.ofInt 64 a &&& BitVec.ofInt 64 4294967295).toNat:Int)=a:=by
 obtain ⟨m,rfl⟩:=Int.eq_ofNat_of_zero_le h0
 have e1:(BitVec.ofInt 64 (m:Int)).toNat=m:=by
  rw [BitVec.ofInt_natCast,BitVec.toNat_ofNat]
  exact Nat.mod_eq_of_lt (by omega)
 have e2:(BitVec.ofInt 64 4294967295).toNat=4294967295:=by decide
 rw [BitVec.toNat_and,e1,e2,show 4294967295=2 ^ 32 - 1 from rfl,Nat.and_two_pow_sub_one_eq_mod,Nat.mod_eq_of_lt (by omega)]
 simp [IntKind.wrap,IntKind.signed,IntKind.bits]
 omega
set_option maxHeartbeats 1000000 in
theorem binP_ok {c:Cx} {g:G} (he:∀ e∈g,e.2.1=e.2.2) {t:TypeId} {op:BinOp} {x y:AV} {u v:Value} {K:AV→Prop} {ox oy:Operand}
  (h:binP P g t op x y K) (hu:Rep c x u) (hv:Rep c y v) :
  ∃ z s,K z∧Rep c z s∧(do eqGuard op t ox oy u v;binOp op t u v:Sem Value).run P c.w=.ok s c.w:=by
 have out:∀ {p:Prop},gP g p→p:=by
  intro p hp
  clear h
  induction g with
  | nil=>exact hp
  | cons e g ih=>exact ih (fun e' h'=>he e' (by simp [h'])) (hp (he e (by simp)))
 unfold binP at h
 split at h
 case h_1=> -- add
  rw [eqK_iff] at h
  obtain ⟨rfl,h⟩:=h
  rw [Rep] at hu hv
  obtain ⟨rfl,_⟩:=hu;obtain ⟨rfl,_⟩:=hv
  obtain ⟨z,h1,h2⟩:=arith_ok (c:=c) he h
  exact ⟨z,_,h1,h2,by simp [run_eqGuard,binOp,Op.intArith]⟩
 case h_2=>
  rw [eqK_iff] at h
  obtain ⟨rfl,h⟩:=h
  rw [Rep] at hu hv
  obtain ⟨rfl,_⟩:=hu;obtain ⟨rfl,_⟩:=hv
  obtain ⟨z,h1,h2⟩:=arith_ok (c:=c) he h
  exact ⟨z,_,h1,h2,by simp [run_eqGuard,binOp,Op.intArith]⟩
 case h_3=>
  rw [eqK_iff] at h
  obtain ⟨rfl,h⟩:=h
  rw [Rep] at hu hv
  obtain ⟨rfl,_⟩:=hu;obtain ⟨rfl,_⟩:=hv
  obtain ⟨z,h1,h2⟩:=arith_ok (c:=c) he h
  exact ⟨z,_,h1,h2,by simp [run_eqGuard,binOp,Op.intArith]⟩
 case h_4=>
  rw [eqK_iff] at h
  obtain ⟨rfl,hb,h⟩:=h
  rw [Rep] at hu hv
  obtain ⟨rfl,_⟩:=hu;obtain ⟨rfl,_⟩:=hv
  obtain ⟨z,h1,h2⟩:=arith_ok (c:=c) he h
  exact ⟨z,_,h1,h2,by simp [run_eqGuard,binOp,Op.intDiv,out hb]⟩
 case h_5=>
  rw [eqK_iff] at h
  obtain ⟨rfl,hb,h⟩:=h
  rw [Rep] at hu hv
  obtain ⟨rfl,_⟩:=hu;obtain ⟨rfl,_⟩:=hv
  refine ⟨_,_,h,by rw [Rep];exact ⟨rfl,(out hb).2⟩,by simp [run_eqGuard,binOp,Op.intDiv,(out hb).1]⟩
 case h_6=>
  rw [eqK_iff] at h
  obtain ⟨rfl,h⟩:=h
  rw [Rep] at hu hv
  obtain ⟨rfl,_⟩:=hu;obtain ⟨rfl,_⟩:=hv
  exact ⟨_,_,h,by rw [Rep],by simp [run_eqGuard,binOp,Op.intCmp]⟩
 case h_7=>
  rw [eqK_iff] at h
  obtain ⟨rfl,h⟩:=h
  rw [Rep] at hu hv
  obtain ⟨rfl,_⟩:=hu;obtain ⟨rfl,_⟩:=hv
  exact ⟨_,_,h,by rw [Rep],by simp [run_eqGuard,binOp,Op.intCmp]⟩
 case h_8=>
  rw [eqK_iff] at h
  obtain ⟨rfl,h⟩:=h
  rw [Rep] at hu hv
  obtain ⟨rfl,_⟩:=hu;obtain ⟨rfl,_⟩:=hv
  exact ⟨_,_,h,by rw [Rep],by simp [run_eqGuard,binOp,Op.intCmp]⟩
 case h_9=>
  rw [eqK_iff] at h
  obtain ⟨rfl,h⟩:=h
  rw [Rep] at hu hv
  obtain ⟨rfl,_⟩:=hu;obtain ⟨rfl,_⟩:=hv
  exact ⟨_,_,h,by rw [Rep],by simp [run_eqGuard,binOp,Op.intCmp]⟩
 case h_10=>
  rw [eqK_iff] at h
  obtain ⟨rfl,h⟩:=h
  rw [Rep] at hu hv
  obtain ⟨rfl,_⟩:=hu;obtain ⟨rfl,_⟩:=hv
  exact ⟨_,_,h,by rw [Rep],by simp [run_eqGuard,binOp,Op.intCmp,beqd]⟩
 case h_11=>
  rw [eqK_iff] at h
  obtain ⟨rfl,h⟩:=h
  rw [Rep] at hu hv
  obtain ⟨rfl,_⟩:=hu;obtain ⟨rfl,_⟩:=hv
  exact ⟨_,_,h,by rw [Rep],by simp [run_eqGuard,binOp,Op.intCmp,bne,beqd]⟩
 case h_12=>
  split at h
  ·rename_i hty
   rw [Rep] at hu hv
   subst hu;subst hv
   refine ⟨_,_,h,by rw [Rep],?_⟩
   simp [run_eqGuard,binOp,run_eq_bool hty,beqd]
  ·exact h.elim
 case h_13=>
  split at h
  ·rename_i hty
   rw [Rep] at hu hv
   subst hu;subst hv
   refine ⟨_,_,h,by rw [Rep],?_⟩
   simp [run_eqGuard,binOp,run_eq_bool hty,beqd]
  ·exact h.elim
 case h_14=>
  rw [Rep] at hu hv
  obtain ⟨b,rfl,rfl,_⟩:=hu;obtain ⟨b',rfl,rfl,_⟩:=hv
  refine ⟨_,_,h,by rw [Rep],?_⟩
  simp [run_eqGuard,binOp,Op.stringOp,beqd,Go.ByteArray.toList_eq]
 case h_15=>
  rw [Rep] at hu hv
  obtain ⟨b,rfl,rfl,_⟩:=hu;obtain ⟨b',rfl,rfl,_⟩:=hv
  refine ⟨_,_,h,by rw [Rep],?_⟩
  simp [run_eqGuard,binOp,Op.stringOp,beqd,Go.ByteArray.toList_eq]
 case h_16=>
  rw [Rep] at hu hv
  obtain ⟨b,rfl,rfl,_⟩:=hu;obtain ⟨b',rfl,rfl,_⟩:=hv
  refine ⟨_,_,h,by rw [Rep],?_⟩
  simp [run_eqGuard,binOp,Op.stringOp,Go.ByteArray.toList_eq]
 case h_17=>
  rw [Rep] at hu hv
  obtain ⟨b,rfl,rfl,l1⟩:=hu;obtain ⟨b',rfl,rfl,l2⟩:=hv
  have l3:=out h.1
  refine ⟨_,.string (b++b'),h.2,?_,?_⟩
  ·rw [Rep]
   exact ⟨_,rfl,by simp [ByteArray.data_append],l3⟩
  ·have hle:¬ (((b.size+b'.size:Nat):Int) > IntKind.i64.max):=by
    simp only [List.length_append,Array.length_toList] at l3
    have e1:b.data.size=b.size:=rfl
    have e2:b'.data.size=b'.size:=rfl
    rw [e1,e2] at l3
    unfold LMAX at l3
    simp [IntKind.max,IntKind.signed,IntKind.bits]
    omega
   simp only [Sem.run_bind,run_eqGuard (u:=.string b) (by simp) (by simp),Result.andThen,binOp,Op.stringOp]
   rw [if_neg hle]
   rfl
 case h_18=>
  split at h
  ·rename_i b heq
   obtain ⟨hp,hK⟩:=h
   obtain ⟨h1,h2⟩:=eqV_ok (w:=c.w) heq hp hu hv 9998
   rcases h2 with ⟨us,vs,rfl,rfl,hm,_⟩|h2
   ·refine ⟨_,.bool b,hK,by rw [Rep],?_⟩
    simp only [Sem.run_bind,run_eqGuard_agg c.w .eql t ox oy us vs hm,Result.andThen_ok,run_eql_struct]
    rw [show (10000:Nat)=9998+2 from rfl,h1]
    rfl
   ·unfold eqS at h2
    split at h2<;>first|contradiction|(rename_i hx _;cases hx)
  ·exact h.elim
 case h_19=>
  split at h
  ·rename_i b heq
   obtain ⟨hp,hK⟩:=h
   obtain ⟨h1,h2⟩:=eqV_ok (w:=c.w) heq hp hu hv 9998
   rcases h2 with ⟨us,vs,rfl,rfl,hm,_⟩|h2
   ·refine ⟨_,.bool (!b),hK,by rw [Rep],?_⟩
    simp only [Sem.run_bind,run_eqGuard_agg c.w .neq t ox oy us vs hm,Result.andThen_ok,run_neq_struct]
    rw [show (10000:Nat)=9998+2 from rfl,h1]
    rfl
   ·unfold eqS at h2
    split at h2<;>first|contradiction|(rename_i hx _;cases hx)
  ·exact h.elim
 case h_20=>
  split at h
  ·rename_i hty
   rw [Rep] at hu hv
   subst hu;subst hv
   refine ⟨_,_,h,by rw [Rep],?_⟩
   simp [run_eqGuard,binOp,run_eq_nil hty]
  ·exact h.elim
 case h_21=>
  split at h
  ·rename_i hty
   rw [Rep] at hu hv
   subst hu;subst hv
   refine ⟨_,_,h,by rw [Rep],?_⟩
   simp [run_eqGuard,binOp,run_eq_nil hty]
  ·exact h.elim
 case h_22=>
  split at h
  ·rename_i hty
   simp only [Rep] at hu hv
   subst hv
   obtain ⟨a,cap,rfl,_⟩:=hu
   refine ⟨_,_,h,by rw [Rep],?_⟩
   simp [run_eqGuard,binOp,run_eq_nil hty]
  ·exact h.elim
 case h_23=>
  split at h
  ·rename_i hty
   simp only [Rep] at hu hv
   subst hv
   obtain ⟨a,cap,rfl,_⟩:=hu
   refine ⟨_,_,h,by rw [Rep],?_⟩
   simp [run_eqGuard,binOp,run_eq_nil hty]
  ·exact h.elim
 case h_24=>
  split at h
  ·rename_i hty
   have hne:=out h.1
   simp only [Rep] at hu hv
   subst hv
   obtain ⟨base,cap,rfl,h1,h2,h3,h4,h5,_⟩:=hu
   have hb:base≠none:=fun e=>hne (List.eq_nil_of_length_eq_zero (by have:=h4 e;omega))
   obtain ⟨a,rfl⟩:=Option.ne_none_iff_exists'.1 hb
   refine ⟨_,_,h.2,by rw [Rep],?_⟩
   simp [run_eqGuard,binOp,run_eq_nil hty]
  ·exact h.elim
 case h_25=>
  split at h
  ·rename_i hty
   have hne:=out h.1
   simp only [Rep] at hu hv
   subst hv
   obtain ⟨base,cap,rfl,h1,h2,h3,h4,h5,_⟩:=hu
   have hb:base≠none:=fun e=>hne (List.eq_nil_of_length_eq_zero (by have:=h4 e;omega))
   obtain ⟨a,rfl⟩:=Option.ne_none_iff_exists'.1 hb
   refine ⟨_,_,h.2,by rw [Rep],?_⟩
   simp [run_eqGuard,binOp,run_eq_nil hty]
  ·exact h.elim
 case h_26=>
  rw [Rep] at hu hv
  obtain ⟨b,rfl,rfl,_⟩:=hu;obtain ⟨b',rfl,rfl,_⟩:=hv
  refine ⟨_,_,h,by rw [Rep],?_⟩
  simp [run_eqGuard,binOp,Op.stringOp,beqd,Go.ByteArray.toList_eq]
 case h_27=>
  split at h
  ·rename_i hty
   simp only [Rep] at hu hv
   subst hv
   obtain ⟨p,cap,_,_,_,rfl,_⟩:=hu
   refine ⟨_,_,h,by rw [Rep],?_⟩
   simp [run_eqGuard,binOp,run_eq_nil hty]
  ·exact h.elim
 case h_28=>
  split at h
  ·rename_i hty
   simp only [Rep] at hu hv
   subst hv
   obtain ⟨b,o,rfl,_⟩:=hu
   refine ⟨_,_,h,by rw [Rep],?_⟩
   simp [run_eqGuard,binOp,run_eq_ptr hty]
  ·exact h.elim
 case h_29=>
  split at h
  ·rename_i hty
   simp only [Rep] at hu hv
   subst hv
   obtain ⟨b,o,rfl,_⟩:=hu
   refine ⟨_,_,h,by rw [Rep],?_⟩
   simp [run_eqGuard,binOp,run_eq_ptr hty]
  ·exact h.elim
 case h_30=>
  split at h
  ·rename_i hty
   simp only [Rep] at hu hv
   subst hv hu
   refine ⟨_,_,h,by rw [Rep],?_⟩
   simp [run_eqGuard,binOp,run_eq_ptr hty]
  ·exact h.elim
 case h_31=>
  split at h
  ·rename_i hty
   simp only [Rep] at hu hv
   subst hv hu
   refine ⟨_,_,h,by rw [Rep],?_⟩
   simp [run_eqGuard,binOp,run_eq_ptr hty]
  ·exact h.elim
 case h_32=>
  rw [Rep] at hu hv
  obtain ⟨rfl,_⟩:=hu;obtain ⟨rfl,_⟩:=hv
  obtain ⟨⟨⟨rfl,rfl⟩,h1,h2⟩,hK⟩:=(show _∧_ from ⟨out h.1,h.2⟩)
  refine ⟨_,.int .u64 _,hK,by rw [Rep];exact ⟨rfl,by simp [IntKind.has,IntKind.min,IntKind.max,IntKind.signed,IntKind.bits];omega⟩,?_⟩
  have hdv:∀ a:Int,Int.fdiv a ((2:Int) ^ 1)=a / 2:=fun a=>by
   rw [Int.fdiv_eq_ediv_of_nonneg _ (by decide)];rfl
  simp only [Sem.run_bind,run_eqGuard (u:=.int .u64 _) (by simp) (by simp),Result.andThen_ok,binOp,Op.shift]
  rw [if_neg (by decide)]
  exact congrArg (fun z=>Result.ok (Value.int .u64 z) c.w) (hdv _)
 case h_33=>
  rw [Rep] at hu hv
  obtain ⟨rfl,_⟩:=hu;obtain ⟨rfl,_⟩:=hv
  obtain ⟨⟨⟨rfl,rfl⟩,⟨h1,h2⟩,rfl⟩,hK⟩:=(show _∧_ from ⟨out h.1,h.2⟩)
  refine ⟨_,.int .u64 0,hK,by rw [Rep];exact ⟨rfl,by simp [IntKind.has,IntKind.min,IntKind.max,IntKind.signed,IntKind.bits]⟩,?_⟩
  have:=Int.fdiv_eq_zero_of_lt h1 (show _<(2:Int) ^ 32 from h2)
  simp only [Sem.run_bind,run_eqGuard (u:=.int .u64 _) (by simp) (by simp),Result.andThen_ok,binOp,Op.shift]
  rw [if_neg (by omega)]
  exact congrArg (fun z=>Result.ok (Value.int .u64 z) c.w) this
 case h_34=>
  rw [Rep] at hu hv
  obtain ⟨rfl,hk⟩:=hu;obtain ⟨rfl,_⟩:=hv
  obtain ⟨⟨⟨rfl,rfl⟩,⟨h1,h2⟩,rfl⟩,hK⟩:=(show _∧_ from ⟨out h.1,h.2⟩)
  refine ⟨_,_,hK,by rw [Rep];exact ⟨rfl,hk⟩,?_⟩
  have:=and_mask h1 h2
  simp only [Sem.run_bind,run_eqGuard (u:=.int .u64 _) (by simp) (by simp),Result.andThen_ok,binOp,Op.intBits]
  simp only [ne_eq,not_true_eq_false,if_false,Sem.run_pure]
  exact congrArg (fun z=>Result.ok (Value.int .u64 z) c.w) this
 case h_35=>exact h.elim
theorem zeroV_ok {c:Cx} {t:TypeId} {z:AV} (h:zeroV P t=some z):∃ v,(zeroValue t).run P w=.ok v w∧Rep c z v:=by
 unfold zeroV at h
 cases hi:P.info? t with
 | none=>simp [hi] at h
 | some i=>
   simp only [hi] at h
   split at h
   ·rename_i us hz
    split at h<;>try contradiction
    rename_i l hl
    cases h
    refine ⟨.agg us,by simp [zeroValue,typeInfo,hi,hz],?_⟩
    rw [Rep]
    refine ⟨us,rfl,?_,ofVals_rep c hl⟩
    have one:∀ (vs:List Value) (xs:List AV),ofVals vs=some xs→∀ u∈vs,u.oneCell'=true:=by
     intro vs
     induction vs with
     | nil=>intro xs _ u hu;cases hu
     | cons v vs ih=>
       intro xs hx u hu
       unfold ofVals at hx
       split at hx<;>try contradiction
       rename_i a hv
       split at hx<;>try contradiction
       rename_i b hr
       rcases List.mem_cons.1 hu with rfl|hu
       ·unfold ofVal at hv
        split at hv<;>first|rfl|contradiction
       ·exact ih _ hr u hu
    intro u hu
    exact one us.toList l hl u (by simpa using hu)
   ·rename_i v hne hz
    exact ⟨v,by simp [zeroValue,typeInfo,hi,hz],ofVal_rep c h⟩
   ·cases h
theorem okTup_ok {c:Cx} {ok f:Bool} {v:AV} {s:Value} (h:Rep c v s):Rep c (okTup ok v f) (if ok then .tuple #[s,.bool f] else s):=by
 cases ok with
 | true=>simp only [okTup,Rep,if_true];exact ⟨_,rfl,by simp only [RepVs];exact ⟨s,[.bool f],rfl,h,.bool f,[],rfl,by rw [Rep],rfl⟩⟩
 | false=>simpa [okTup] using h
theorem run_lookup' {c:Cx} {t kt et:TypeId} {k z v:AV} {u:Value} {f ok:Bool} {r:Nat} {es:List (AV × AV)} {ents:Array MapEntry} {cl:Nat} (ht:P.underlying t=some (.map kt et)) (hk:keyFits P kt k) (hu:Rep c k u)
  (hz:zeroV P et=some z) (hb:c.w.heap[r]?=some (.map ents cl)) (he:EntsRep c es ents.toList) (hm:mlook P kt k es z=some (v,f)) :
  ∃ s,(Instr.lookup t (.map (some r)) u ok).run P c.w=.ok s c.w∧Rep c (okTup ok v f) s:=by
 obtain ⟨zv,hz1,hz2⟩:=zeroV_ok (c:=c) (w:=c.w) hz
 have hck:=run_checkKey' (w:=c.w) hk hu ents.isEmpty 9998
 unfold mlook at hm
 split at hm
 ·rename_i v' hg
  cases hm
  obtain ⟨res,h1,j,e,rfl,h3,h4,_⟩:=run_findKey' (w:=c.w) hk hu he hg
  refine ⟨_,?_,okTup_ok h4⟩
  simp only [Instr.lookup,Sem.run_bind,run_und ht,Result.andThen_ok,getObj]
  simp [Sem.run,hb,hck,h1]
 ·rename_i hg
  cases hm
  obtain ⟨res,h1,rfl,_⟩:=run_findKey' (w:=c.w) hk hu he hg
  refine ⟨_,?_,okTup_ok hz2⟩
  simp only [Instr.lookup,Sem.run_bind,run_und ht,Result.andThen_ok,getObj]
  simp [Sem.run,hb,hck,h1,hz1]
 ·cases hm
theorem run_lookup_nil {c:Cx} {t kt et:TypeId} {k z:AV} {u:Value} {ok:Bool} (ht:P.underlying t=some (.map kt et)) (hk:keyFits P kt k) (hu:Rep c k u)
  (hz:zeroV P et=some z):∃ s,(Instr.lookup t (.map none) u ok).run P c.w=.ok s c.w∧Rep c (okTup ok z false) s:=by
 obtain ⟨zv,hz1,hz2⟩:=zeroV_ok (c:=c) (w:=c.w) hz
 have hck:=run_checkKey' (w:=c.w) hk hu true 9998
 obtain ⟨res,h1,rfl,_⟩:=run_findKey' (w:=c.w) (es:=[]) (ents:=#[]) (r:=none) hk hu (by simp [EntsRep]) (by simp [mget])
 refine ⟨_,?_,okTup_ok hz2⟩
 simp only [Instr.lookup,Sem.run_bind,run_und ht,Result.andThen_ok]
 simp at h1
 simp [hck,h1,hz1]
end Go.Abs
/-
 The abstract layer,part D: the operations that leave the own objects alone.
-/
namespace Go.Abs
open Go
variable {P:Program}
theorem cellsV_rep {c:Cx} {v:AV} {l:List AV} {u:Value} (h:cellsV v=some l) (hr:Rep c v u) :
  RepVs c l u.cells.toList∧∀ x∈u.cells,x.oneCell'=true:=by
 unfold cellsV at h
 split at h
 ·cases h
  rw [Rep] at hr
  obtain ⟨us,rfl,h1,h2⟩:=hr
  exact ⟨h2,h1⟩
 ·cases h
 ·cases h
 ·rename_i n1 n2 n3
  cases h
  have hu:u.cells=#[u]∧u.oneCell'=true:=by
   cases v<;>first|(exact absurd rfl (n1 _))|(exact absurd rfl (n2 _))|(exact absurd rfl n3)|skip
   all_goals simp only [Rep] at hr
   case junk=>cases u<;>simp_all [Value.oneCell',Value.cells]
   case bool=>subst hr;simp [Value.oneCell',Value.cells]
   case int=>obtain ⟨rfl,_⟩:=hr;simp [Value.oneCell',Value.cells]
   case str=>obtain ⟨b,rfl,_⟩:=hr;simp [Value.oneCell',Value.cells]
   case nilS=>subst hr;simp [Value.oneCell',Value.cells]
   case slz=>obtain ⟨b,c,rfl,_⟩:=hr;simp [Value.oneCell',Value.cells]
   case nilO=>subst hr;simp [Value.oneCell',Value.cells]
   case sl=>obtain ⟨b,c,rfl,_⟩:=hr;simp [Value.oneCell',Value.cells]
   case osl=>obtain ⟨p,c,_,_,_,rfl,_⟩:=hr;simp [Value.oneCell',Value.cells]
   case oslc=>obtain ⟨p,_,_,rfl,_⟩:=hr;simp [Value.oneCell',Value.cells]
   case iptr=>obtain ⟨p,c,rfl,_⟩:=hr;simp [Value.oneCell',Value.cells]
   case optr=>obtain ⟨p,_,_,rfl⟩:=hr;simp [Value.oneCell',Value.cells]
   case nilP=>subst hr;simp [Value.oneCell',Value.cells]
   case omap=>obtain ⟨p,_,rfl⟩:=hr;simp [Value.oneCell',Value.cells]
   case nilM=>subst hr;simp [Value.oneCell',Value.cells]
   case fn=>obtain ⟨p,rfl,_⟩:=hr;simp [Value.oneCell',Value.cells]
   case nilF=>subst hr;simp [Value.oneCell',Value.cells]
   case oit=>obtain ⟨p,_,rfl⟩:=hr;simp [Value.oneCell',Value.cells]
  rw [hu.1]
  refine ⟨?_,by simpa using hu.2⟩
  simp only [RepVs]
  exact ⟨u,[],rfl,hr,rfl⟩
section
variable {n:Nat} {X:Nat→Prop} {g0:Gh} {r:Regs} {h:Heap} {a:Act} {w:World}
theorem gP_he {g:G} {p:Prop} (he:∀ e∈g,e.2.1=e.2.2) (hp:gP g p):p:=by
 induction g with
 | nil=>exact hp
 | cons e g ih=>exact ih (fun e' h'=>he e' (by simp [h'])) (hp (he e (by simp)))
def NextQ (X:Nat→Prop) (g0:Gh) (h:Heap) (w:World) (K:AV→Prop) (d:Option Tmp) (a:Act) (next:Act→World→Prop):Prop:=
 ∀ v g' u w',K v→CW X g' h w'→Rep ⟨g',live X h,w'⟩ v u→Step X g0 h w g' h w'→next (a.put d u) w'
theorem q_val {o:Oper} {K:AV→Prop} {next:Act→World→Prop} {Q:Exit→Act→World→Prop} (hc:Conc n X g0 r h a w) (hn:NextQ X g0 h w K o.dst a next)
  {u:Value} {v:AV} (hk:K v) (hu:Rep ⟨g0,live X h,w⟩ v u) (hr:(execOp a.eval o).run P w=.ok (.value u) w):o.wp P a w next Q:=
 wp_value hr (hn v g0 u w hk hc.cw hu (Step.refl _ _ _ _))
theorem has_i64_len {k:Nat} (h:k≤LMAX):IntKind.i64.has (k:Int):=by
 unfold LMAX at h
 constructor<;>simp [IntKind.min,IntKind.max,IntKind.signed,IntKind.bits]<;>omega
theorem lenP_ok {c:Cx} {t ty:TypeId} {x:AV} {u:Value} {K:AV→Prop} (h:lenP (P.underlying t) x K) (hu:Rep c x u) :
  ∃ v s,K v∧Rep c v s∧(Builtin.len_ #[t] ty #[u]).run P c.w=.ok s c.w:=by
 unfold lenP at h
 split at h
 ·rename_i e k q xs hd
  simp only [Rep] at hu
  obtain ⟨b,cap,rfl,h1,h2,_⟩:=hu
  exact ⟨_,_,h,by rw [Rep];exact ⟨rfl,has_i64_len h2⟩,by simp [Builtin.len_,run_und hd,goInt]⟩
 ·rename_i e hd
  simp only [Rep] at hu
  subst hu
  exact ⟨_,_,h,by rw [Rep];exact ⟨rfl,has_i64_len (k:=0) (Nat.zero_le _)⟩,by simp [Builtin.len_,run_und hd,goInt]⟩
 ·rename_i e k hd
  simp only [Rep] at hu
  obtain ⟨a,cap,rfl,_⟩:=hu
  exact ⟨_,_,h,by rw [Rep];exact ⟨rfl,has_i64_len (k:=0) (Nat.zero_le _)⟩,by simp [Builtin.len_,run_und hd,goInt]⟩
 ·rename_i e hd
  simp only [Rep] at hu
  subst hu
  exact ⟨_,_,h,by rw [Rep];exact ⟨rfl,has_i64_len (k:=0) (Nat.zero_le _)⟩,by simp [Builtin.len_,run_und hd,goInt]⟩
 ·rename_i e b o m k hd
  simp only [Rep] at hu
  obtain ⟨p,cap,_,_,_,rfl,_,h2,_⟩:=hu
  exact ⟨_,_,h,by rw [Rep];exact ⟨rfl,has_i64_len h2⟩,by simp [Builtin.len_,run_und hd,goInt]⟩
 ·rename_i e b o m c k hd
  simp only [Rep] at hu
  obtain ⟨p,_,_,rfl,_,h2,_⟩:=hu
  exact ⟨_,_,h,by rw [Rep];exact ⟨rfl,has_i64_len h2⟩,by simp [Builtin.len_,run_und hd,goInt]⟩
 ·rename_i s hd
  rw [Rep] at hu
  obtain ⟨b,rfl,rfl,h2⟩:=hu
  refine ⟨_,_,h,by rw [Rep];exact ⟨rfl,has_i64_len h2⟩,?_⟩
  simp [Builtin.len_,run_und hd,goInt]
 ·exact h.elim
theorem min_ok {c:Cx}:∀ {l:List AV} {us:List Value} {x m:Int},foldI min x l=some m→RepVs c l us→IntKind.i64.has x →
  IntKind.i64.has m∧∀ w:World,(us.foldlM Builtin.min2 (Value.int .i64 x)).run P w=.ok (.int .i64 m) w
 | [],us,x,m,h,hr,hx=>by
   simp [foldI] at h;subst h
   simp [RepVs] at hr;subst hr
   exact ⟨hx,fun w=>by simp⟩
 | y::l,us,x,m,h,hr,hx=>by
   simp only [RepVs] at hr
   obtain ⟨u,r,rfl,h1,h2⟩:=hr
   cases y<;>try (simp [foldI] at h;done)
   rename_i k b
   cases k<;>try (simp [foldI] at h;done)
   rw [Rep] at h1
   obtain ⟨rfl,hb⟩:=h1
   have hm:IntKind.i64.has (min x b):=by rcases Int.le_total x b with e|e<;>simp [Int.min_eq_left,Int.min_eq_right,e,hx,hb]
   obtain ⟨e1,e2⟩:=min_ok (x:=min x b) (by simpa [foldI] using h) h2 hm
   refine ⟨e1,fun w=>?_⟩
   have e:(if b<x then b else x)=min x b:=by split<;>omega
   simp only [List.foldlM_cons,Sem.run_bind,Builtin.min2,Sem.run_pure,Result.andThen,e]
   exact e2 w
theorem max_ok {c:Cx}:∀ {l:List AV} {us:List Value} {x m:Int},foldI max x l=some m→RepVs c l us→IntKind.i64.has x →
  IntKind.i64.has m∧∀ w:World,(us.foldlM Builtin.max2 (Value.int .i64 x)).run P w=.ok (.int .i64 m) w
 | [],us,x,m,h,hr,hx=>by
   simp [foldI] at h;subst h
   simp [RepVs] at hr;subst hr
   exact ⟨hx,fun w=>by simp⟩
 | y::l,us,x,m,h,hr,hx=>by
   simp only [RepVs] at hr
   obtain ⟨u,r,rfl,h1,h2⟩:=hr
   cases y<;>try (simp [foldI] at h;done)
   rename_i k b
   cases k<;>try (simp [foldI] at h;done)
   rw [Rep] at h1
   obtain ⟨rfl,hb⟩:=h1
   have hm:IntKind.i64.has (max x b):=by rcases Int.le_total x b with e|e<;>simp [Int.max_eq_left,Int.max_eq_right,e,hx,hb]
   obtain ⟨e1,e2⟩:=max_ok (x:=max x b) (by simpa [foldI] using h) h2 hm
   refine ⟨e1,fun w=>?_⟩
   have e:(if b > x then b else x)=max x b:=by split<;>omega
   simp only [List.foldlM_cons,Sem.run_bind,Builtin.max2,Sem.run_pure,Result.andThen,e]
   exact e2 w
end
section
variable {n:Nat} {X:Nat→Prop} {g0:Gh} {r:Regs} {h:Heap} {a:Act} {w:World}
theorem run_call {f:FuncId} {us:Array Value} (hf:Callable P f):(callFunc f us).run P w=.ok (.enter f us) w:=by
 obtain ⟨fn,c,h1,h2,h3⟩:=hf
 simp only [callFunc,Sem.run_bind,run_program,Result.andThen,h1,h3,h2]
 simp
theorem CallsE.calls {f:FuncId} {us:Array Value} {R:Ending→World→Prop} (hf:Callable P f) (hc:CallsE P f us w R):Calls P f us w R:=by
 rcases hc with ⟨_,h⟩|⟨v,w',h,_⟩
 ·exact h
 ·rw [run_call hf] at h;cases h
theorem wp_call {f:FuncId} {vs:List AV} {R:AV→Heap→Prop} {o:Oper} {us:Array Value} {next:Act→World→Prop} {Q:Exit→Act→World→Prop}
  (hq:ACalls P f vs h R) (hc:CW X g0 h w) (hv:RepVs ⟨g0,live X h,w⟩ vs us.toList)
  (hrun:(execOp a.eval o).run P w=(callFunc f us).run P w)
  (hn:∀ v h' g' u w',R v h'→CW X g' h' w'→Rep ⟨g',live X h',w'⟩ v u→Step X g0 h w g' h' w'→next (a.put o.dst u) w'):o.wp P a w next Q:=by
 rcases hq.1 X g0 w us hc hv with ⟨h1,h2⟩|⟨u,w',h1,v,u',g',h',e,h3,h4,h5,h6⟩
 ·rw [run_call h1] at hrun
  simp only [Oper.wp,hrun,Oper.upon]
  refine h2.mono fun e w' he=>?_
  obtain ⟨v,u,g',h',rfl,h1,h2,h3,h4⟩:=he
  exact hn v h' g' u w' h1 h2 h3 h4
 ·cases e
  rw [h1] at hrun
  exact wp_value hrun (hn v h' g' _ w' h3 h4 h5 h6)
end
theorem fold_set:∀ (vs:List Value) (k off:Nat) (cs:Array Value),off+k+vs.length≤cs.size →
  ((vs.zipIdx k).foldl (fun cs (x:Value × Nat)=>cs.setIfInBounds (off+x.2) x.1) cs).toList=cs.toList.take (off+k)++vs++cs.toList.drop (off+k+vs.length)
 | [],k,off,cs,h=>by simp
 | v::vs,k,off,cs,h=>by
   simp only [List.length_cons] at h
   simp only [List.zipIdx_cons,List.foldl_cons]
   rw [fold_set vs (k+1) off _ (by simp;omega)]
   simp only [Array.toList_setIfInBounds,List.length_cons]
   have hlen:off+k<cs.toList.length:=by simp;omega
   rw [show off+(k+1)=off+k+1 from by omega,List.take_succ_eq_append_getElem (by simp;omega),List.take_set]
   simp only [List.getElem_set_self,List.append_assoc,List.singleton_append]
   rw [List.set_eq_of_length_le (by simp;omega),List.drop_set_of_lt (by omega)]
   rw [show off+k+1+vs.length=off+k+(vs.length+1) from by omega]
theorem fill_one (v:Value) (off:Nat) (cells:Array Value) (h:off+v.cells.size≤cells.size) :
  (v.cells.zipIdx.foldl (fun cs (x:Value × Nat)=>cs.setIfInBounds (off+x.2) x.1) cells).toList=cells.toList.take off++v.cells.toList++cells.toList.drop (off+v.cells.size):=by
 have:=fold_set v.cells.toList 0 off cells (by simpa using h)
 rw [← Array.foldl_toList,Array.toList_zipIdx]
 simpa using this
theorem fillC_ok {c:Cx} {place:Nat→Option (Nat × Nat)}:∀ {ps:List (Nat × AV)} {cs out:List AV} {vs:List (Nat × Value)} {cells:Array Value},
  fillC ps place cs=some out→(vs.map (·.1)=ps.map (·.1))→(∀ (i:Nat) (p:Nat × AV) (v:Nat × Value),ps[i]?=some p→vs[i]?=some v→Rep c p.2 v.2)→RepVs c cs cells.toList→(∀ u∈cells,u.oneCell'=true) →
  ∃ res,Instr.fill place cells vs=some res∧RepVs c out res.toList∧∀ u∈res,u.oneCell'=true
 | [],cs,out,vs,cells,h,hi,hr,hc,h1=>by
   simp [fillC] at h;subst h
   simp at hi;subst hi
   exact ⟨cells,rfl,hc,h1⟩
 | (i,x)::ps,cs,out,vs,cells,h,hi,hr,hc,h1=>by
   cases vs with
   | nil=>simp at hi
   | cons v vs=>
     obtain ⟨j,v⟩:=v
     simp at hi
     obtain ⟨rfl,hi⟩:=hi
     have hx:Rep c x v:=hr 0 _ _ rfl rfl
     unfold fillC at h
     cases hp:place j with
     | none=>simp [hp] at h
     | some q=>
       obtain ⟨off,size⟩:=q
       simp only [hp] at h
       cases hl:cellsV x with
       | none=>simp [hl] at h
       | some l=>
         simp only [hl] at h
         obtain ⟨hcl,hco⟩:=cellsV_rep hl hx
         split at h
         ·rename_i hsz
          have hsz:=Nat.eq_of_beq_eq_true hsz
          cases ht:takeN off cs with
          | none=>simp [ht] at h
          | some ta=>
            cases hd:dropN (off+size) cs with
            | none=>simp [ht,hd] at h
            | some td=>
              simp only [ht,hd] at h
              obtain ⟨t1,rfl⟩:=takeN_eq ht
              obtain ⟨d1,rfl⟩:=dropN_eq hd
              have hlen:=hcl.length
              have hcs:=hc.length
              simp only [Array.length_toList] at hlen hcs
              have hvs:v.cells.size=size:=by omega
              have hb:off+v.cells.size≤cells.size:=by omega
              have hf:=fill_one v off cells hb
              obtain ⟨res,e1,e2,e3⟩:=fillC_ok (place:=place) (vs:=vs) (cells:=v.cells.zipIdx.foldl (fun cs (x:Value × Nat)=>cs.setIfInBounds (off+x.2) x.1) cells) h hi
               (fun k p w hp hw=>hr (k+1) p w (by simpa using hp) (by simpa using hw))
               (by rw [hf];rw [hvs];exact RepVs.append (RepVs.append (RepVs.take off hc) hcl) (RepVs.drop (off+size) hc))
               (fun u hu=>by
                 have hu':u∈(v.cells.zipIdx.foldl (fun cs (x:Value × Nat)=>cs.setIfInBounds (off+x.2) x.1) cells).toList:=by simpa using hu
                 rw [hf] at hu'
                 simp only [List.mem_append] at hu'
                 rcases hu' with (hu'|hu')|hu'
                 ·exact h1 u (by simpa using List.mem_of_mem_take hu')
                 ·exact hco u (by simpa using hu')
                 ·exact h1 u (by simpa using List.mem_of_mem_drop hu'))
              refine ⟨res,?_,e2,e3⟩
              unfold Instr.fill
              simp only [hp]
              rw [if_neg (by simp [hvs];omega)]
              exact e1
         ·cases h
theorem placesOf_eq {P:Program}:∀ {fs:List Field} {l:List (Nat × Nat)},placesOf P fs=some l →
  fs.mapM (fun f=>(P.info? f.type).map fun i=>(f.offset,i.size))=some l
 | [],l,h=>by simp [placesOf] at h;subst h;simp
 | f::fs,l,h=>by
   unfold placesOf at h
   cases hi:P.info? f.type with
   | none=>simp [hi] at h
   | some i=>
     cases hp:placesOf P fs with
     | none=>simp [hi,hp] at h
     | some l'=>
       simp [hi,hp] at h
       subst h
       simp [List.mapM_cons,hi,placesOf_eq hp]
theorem zeroCs_ok {P:Program} {c:Cx} {t:TypeId} {z:List AV} (h:zeroCs P t=some z):∃ i v,P.info? t=some i∧i.zero=some v∧RepVs c z v.cells.toList∧∀ u∈v.cells,u.oneCell'=true:=by
 unfold zeroCs at h
 cases hi:P.info? t with
 | none=>simp [hi] at h
 | some i=>
   cases hz:i.zero with
   | none=>simp [hi,hz] at h
   | some v=>
     simp [hi,hz] at h
     refine ⟨i,v,rfl,hz,ofVals_rep c h,?_⟩
     have one:∀ (vs:List Value) (xs:List AV),ofVals vs=some xs→∀ u∈vs,u.oneCell'=true:=by
      intro vs
      induction vs with
      | nil=>intro xs _ u hu;cases hu
      | cons v vs ih=>
        intro xs hx u hu
        unfold ofVals at hx
        cases hv:ofVal v with
        | none=>simp [hv] at hx
        | some a=>
          cases hr:ofVals vs with
          | none=>simp [hv,hr] at hx
          | some b=>
            rcases List.mem_cons.1 hu with rfl|hu
            ·unfold ofVal at hv
             split at hv<;>first|rfl|cases hv
            ·exact ih b hr u hu
     intro u hu
     exact one _ _ h u (by simpa using hu)
theorem RepEs.flat {c:Cx} {k:Nat}:∀ {xs:List (List AV)} {b o:Nat},(∀ x∈xs,x.length=k)→RepCs c xs.flatten b o→RepEs c k xs b o
 | [],b,o,_,_=>by simp [RepEs]
 | x::xs,b,o,hk,h=>by
   simp only [RepEs]
   have hx:=hk x (by simp)
   simp only [List.flatten_cons] at h
   have h1:=RepCs.take x.length h
   have h2:=RepCs.drop x.length (by simp) h
   simp at h1 h2
   exact ⟨⟨hx,h1⟩,RepEs.flat (fun y hy=>hk y (by simp [hy])) (hx ▸ h2)⟩
theorem RepCs.append {c:Cx}:∀ {xs ys:List AV} {b o:Nat},RepCs c xs b o→RepCs c ys b (o+xs.length)→RepCs c (xs++ys) b o
 | [],ys,b,o,_,h=>by simpa using h
 | x::xs,ys,b,o,h,h'=>by
   simp only [List.cons_append,RepCs] at h ⊢
   exact ⟨h.1,RepCs.append h.2 (by rw [show o+1+xs.length=o+(x::xs).length from by simp;omega];exact h')⟩
theorem RepEs.toFlat {c:Cx} {k:Nat}:∀ {xs:List (List AV)} {b o:Nat},RepEs c k xs b o→(∀ x∈xs,x.length=k)∧RepCs c xs.flatten b o
 | [],b,o,_=>by simp [RepCs]
 | x::xs,b,o,h=>by
   simp only [RepEs] at h
   obtain ⟨⟨h1,h2⟩,h3⟩:=h
   obtain ⟨e1,e2⟩:=RepEs.toFlat h3
   refine ⟨fun y hy=>(List.mem_cons.1 hy).elim (fun e=>e ▸ h1) (e1 y),?_⟩
   simp only [List.flatten_cons]
   exact RepCs.append h2 (h1 ▸ e2)
theorem flat_length {k:Nat}:∀ {xs:List (List AV)},(∀ x∈xs,x.length=k)→xs.flatten.length=xs.length*k
 | [],_=>by simp
 | x::xs,h=>by
   have ih:=flat_length (xs:=xs) (fun y hy=>h y (List.mem_cons_of_mem _ hy))
   have hx:=h x (List.mem_cons_self ..)
   simp only [List.flatten_cons,List.length_append,List.length_cons,ih,hx,Nat.add_mul,Nat.one_mul]
   omega
end Go.Abs
/-
 The abstract layer,part E: every operation that leaves the own objects alone does what the evaluator says.
-/
namespace Go.Abs
open Go
variable {P:Program} {n:Nat} {X:Nat→Prop} {g0:Gh} {r:Regs} {h:Heap} {a:Act} {w:World}
theorem elems_ok (hc:Conc n X g0 r h a w) {g:G} (hg:holdsC a g) {size:Nat}:∀ {ps:List (Nat × Operand)} {k:Nat} {l:List (List AV)},
  elemsOf r g size k ps=some l→∀ (cells:Array Value),(k+ps.length)*size≤cells.size→(∀ u∈cells,u.oneCell'=true) →
  ∃ res us,Instr.fill (fun i=>some (i*size,size)) cells (ps.map fun (i,x)=>(i,a.eval x))=some res∧l.length=ps.length∧(∀ x∈l,x.length=size) ∧
   RepVs ⟨g0,live X h,w⟩ l.flatten us∧us.length=ps.length*size∧res.toList=cells.toList.take (k*size)++us++cells.toList.drop ((k+ps.length)*size) ∧
   (∀ u∈res,u.oneCell'=true)
 | [],k,l,he,cells,hs,h1=>by
   simp [elemsOf] at he;subst he
   exact ⟨cells,[],rfl,rfl,by simp,by simp [RepVs],by simp,by simp,h1⟩
 | (i,x)::ps,k,l,he,cells,hs,h1=>by
   unfold elemsOf at he
   split at he
   ·rename_i hik
    have hik:=Nat.eq_of_beq_eq_true hik
    subst hik
    cases hx:opnd r g x with
    | none=>simp [hx] at he
    | some v=>
      simp only [hx] at he
      cases hv:cellsV v with
      | none=>simp [hv] at he
      | some y=>
        simp only [hv] at he
        split at he
        ·rename_i hl
         have hl:=Nat.eq_of_beq_eq_true hl
         cases hr:elemsOf r g size (i+1) ps with
         | none=>simp [hr] at he
         | some l'=>
           simp [hr] at he
           subst he
           have hrep:=hc.opnd hg hx
           obtain ⟨hcl,hco⟩:=cellsV_rep hv hrep
           have hlen:=hcl.length
           simp only [Array.length_toList] at hlen
           have hvs:(a.eval x).cells.size=size:=by omega
           simp only [List.length_cons] at hs
           have e0:(i+(ps.length+1))*size=i*size+size+ps.length*size:=by simp only [Nat.add_mul,Nat.one_mul];omega
           have hb:i*size+(a.eval x).cells.size≤cells.size:=by omega
           have hf:=fill_one (a.eval x) (i*size) cells hb
           have hsz:((a.eval x).cells.zipIdx.foldl (fun cs (x:Value × Nat)=>cs.setIfInBounds (i*size+x.2) x.1) cells).size=cells.size:=by
            have:=congrArg List.length hf
            simp only [Array.length_toList,List.length_append,List.length_take,List.length_drop] at this
            omega
           obtain ⟨res,us,e1,e2,e3,e4,e5,e6,e7⟩:=elems_ok hc hg hr ((a.eval x).cells.zipIdx.foldl (fun cs (x:Value × Nat)=>cs.setIfInBounds (i*size+x.2) x.1) cells)
            (by rw [hsz];rw [show i+1+ps.length=i+(ps.length+1) from by omega];exact hs)
            (fun u hu=>by
              have hu':u∈((a.eval x).cells.zipIdx.foldl (fun cs (x:Value × Nat)=>cs.setIfInBounds (i*size+x.2) x.1) cells).toList:=by simpa using hu
              rw [hf] at hu'
              simp only [List.mem_append] at hu'
              rcases hu' with (hu'|hu')|hu'
              ·exact h1 u (by simpa using List.mem_of_mem_take hu')
              ·exact hco u (by simpa using hu')
              ·exact h1 u (by simpa using List.mem_of_mem_drop hu'))
           refine ⟨res,(a.eval x).cells.toList++us,?_,by simp [e2],?_,?_,?_,?_,e7⟩
           ·simp only [List.map_cons]
            unfold Instr.fill
            simp only []
            rw [if_neg (by simp [hvs];omega)]
            exact e1
           ·intro z hz
            rcases List.mem_cons.1 hz with rfl|hz
            ·exact hl
            ·exact e3 z hz
           ·simp only [List.flatten_cons];exact RepVs.append hcl e4
           ·simp only [List.length_append,Array.length_toList,e5,hvs,List.length_cons,Nat.add_mul];omega
           ·rw [e6,hf]
            simp only [List.length_cons]
            have t1:(cells.toList.take (i*size)++(a.eval x).cells.toList++cells.toList.drop (i*size+(a.eval x).cells.size)).take ((i+1)*size)=cells.toList.take (i*size)++(a.eval x).cells.toList:=by
             rw [List.take_append_of_le_length (by simp only [List.length_append,List.length_take,Array.length_toList,Nat.add_mul];omega)]
             exact List.take_of_length_le (by simp only [List.length_append,List.length_take,Array.length_toList,Nat.add_mul];omega)
            rw [t1]
            have t2:(cells.toList.take (i*size)++(a.eval x).cells.toList++cells.toList.drop (i*size+(a.eval x).cells.size)).drop ((i+1+ps.length)*size)=cells.toList.drop ((i+(ps.length+1))*size):=by
             have hle:(cells.toList.take (i*size)++(a.eval x).cells.toList).length≤(i+1+ps.length)*size:=by
              simp only [List.length_append,List.length_take,Array.length_toList,Nat.add_mul];omega
             rw [List.drop_append,List.drop_of_length_le hle,List.nil_append,List.drop_drop]
             congr 1
             simp only [List.length_append,List.length_take,Array.length_toList,Nat.add_mul];omega
            rw [t2]
            simp
        ·cases he
   ·cases he
theorem load_ok {t:TypeId} {x:AV} {u:Value} {K:AV→Prop} (hc:CW X g0 h w) (hu:Rep ⟨g0,live X h,w⟩ x u)
  (hk:match x with
    | .iptr cs=>loadI P t cs K
    | .optr b o=>∃ cs l,(b,Ob.vec cs)∈h∧dropN o cs=some l∧loadI P t l K
    | _=>False) :
  ∃ v s,K v∧Rep ⟨g0,live X h,w⟩ v s∧(Instr.loadAt t u).run P w=.ok s w:=by
 cases x<;>try exact hk.elim
 case iptr cs=>
  rw [Rep] at hu
  obtain ⟨b,o,rfl,hr⟩:=hu
  obtain ⟨v,s,h1,h2,h3⟩:=run_loadVarI hr hk
  exact ⟨v,s,h1,h2,by simpa [Instr.loadAt,Instr.sureAddr] using h3⟩
 case optr b o=>
  rw [Rep] at hu
  obtain ⟨p,hp,hs,rfl⟩:=hu
  obtain ⟨cs,l,hm,hd,hl⟩:=hk
  obtain ⟨h1,rfl⟩:=dropN_eq hd
  obtain ⟨p',hp',hs',us,e1,e2,e3,e4⟩:=vec_cells (hc.obj b _ hm)
  simp only at hp'
  rw [hp] at hp';cases hp'
  obtain ⟨v,s,k1,k2,k3⟩:=run_loadVarU (P:=P) (t:=t) (b:=p.block) (o:=p.off+o) (us:=us.drop o) (c:=⟨g0,live X h,w⟩)
   (fun j u hu=>by rw [Nat.add_assoc];exact e2 (o+j) u (by simpa using hu)) (fun j u hu=>e3 (o+j) u (by simpa using hu)) (RepVs.drop o e4) hl
  exact ⟨v,s,k1,k2,by simpa [Instr.loadAt,Instr.sureAddr] using k3⟩
theorem fieldOf_ok {s:TypeId} {f:Nat} {fd:Field} (hf:fieldOf P s f=some fd):∃ fs,P.underlying s=some (.struct fs)∧fs[f]?=some fd:=by
 unfold fieldOf at hf
 split at hf
 ·rename_i fs hu;exact ⟨fs,hu,by simpa using hf⟩
 ·cases hf
theorem run_fieldAt {s:TypeId} {f:Nat} {fd:Field} (hf:fieldOf P s f=some fd) (hs:Nat.ble 1 (P.cellsOf fd.type)=true) (b o:Nat) :
  (Instr.fieldAt s (.pointer (some ⟨b,o,none⟩)) f).run P w=.ok (.pointer (some ⟨b,o+fd.offset,none⟩)) w:=by
 obtain ⟨fs,hu,hf⟩:=fieldOf_ok hf
 have hs:=Nat.le_of_ble_eq_true hs
 have hi:∃ i,P.info? fd.type=some i:=by
  cases hi:P.info? fd.type with
  | none=>simp [Program.cellsOf,hi] at hs
  | some i=>exact ⟨i,rfl⟩
 obtain ⟨i,hi⟩:=hi
 have hne:P.cellsOf fd.type≠0:=by omega
 simp [Instr.fieldAt,run_und hu,hf,Instr.sureAddr,fieldPlace,run_sizeT hi,hne,Addr.add]
theorem RepEs.get {c:Cx} {k:Nat}:∀ {xs:List (List AV)} {b o j:Nat} {y:List AV},RepEs c k xs b o→xs[j]?=some y→RepCs c y b (o+j*k)
 | [],b,o,j,y,_,h=>by simp at h
 | x::xs,b,o,0,y,hr,h=>by
   simp only [RepEs] at hr
   simp at h;subst h
   simpa using hr.1.2
 | x::xs,b,o,j+1,y,hr,h=>by
   simp only [RepEs] at hr
   have:=RepEs.get hr.2 (by simpa using h)
   rw [show o+(j+1)*k=o+k+j*k from by rw [Nat.add_mul,Nat.one_mul];omega]
   exact this
theorem evals_list (xs:Array Operand):(xs.map a.eval).toList=xs.toList.map a.eval:=by simp
theorem run_callF {o:Oper} {f:FuncId} {cl:Call} (ho:o.op=.call cl) {caps:Array Value}
  (hv:∃ x,cl.callee=.value x∧a.eval x=.func (.func f) #[] caps) :
  (execOp a.eval o).run P w=(callFunc f (cl.args.map a.eval++caps)).run P w:=by
 obtain ⟨x,h1,h2⟩:=hv
 simp only [execOp,ho,Sem.run_bind,resolve,h1,h2,Deferred.ofValue,Sem.run_pure,Result.andThen,invoke]
 simp only [Array.empty_append]
theorem sliced_ok {c:Cx} {k:Nat} {t:Option Nat} {xs:List (List AV)} {base:Option Addr} {cap l m:Nat} (all:Bool) (hk:0<k)
  (hu:Rep c (.sl k t xs) (.slice base xs.length cap)) (h1:l≤m) (h2:m≤xs.length) (ha:all=true→m=xs.length) :
  Rep c (.sl k (tokIf all t) ((xs.take m).drop l)) (sliced base l m cap k):=by
 simp only [Rep] at hu ⊢
 obtain ⟨base',cap',hv,e1,e2,e3,e4,e5,e6,e7⟩:=hu
 injection hv with q1 q2 q3
 subst q1;subst q3
 have hlen:((xs.take m).drop l).length=m - l:=by simp;omega
 refine ⟨_,cap - l,by rw [hlen];rfl,by rw [hlen];omega,by rw [hlen];omega,hk,?_,?_,?_,?_⟩
 ·intro hb
  cases base with
  | none=>have:=e4 rfl;omega
  | some a=>
    split at hb
    ·omega
    ·simp at hb
 ·intro a ha' hne
  cases base with
  | none=>split at ha'<;>simp at ha'
  | some a0=>
    have hs:=e5 a0 rfl (fun e=>by subst e;simp at hne)
    split at ha'
    ·simp at ha';subst ha';exact hs
    ·simp at ha';subst ha'
     unfold Addr.add
     split
     ·exact hs
     ·rfl
 ·intro a ha'
  cases base with
  | none=>split at ha'<;>simp at ha'
  | some a0=>
    have hr:=e6 a0 rfl
    by_cases hcl:cap=l
    ·have:(xs.take m).drop l=[]:=List.eq_nil_of_length_eq_zero (by rw [hlen];omega)
     rw [this];simp [RepEs]
    ·rw [if_neg hcl] at ha'
     simp at ha';subst ha'
     have key:∀ (l:Nat) (ys:List (List AV)) (b o:Nat),RepEs c k ys b o→RepEs c k (ys.drop l) b (o+l*k):=by
      intro l
      induction l with
      | zero=>intro ys b o hy;simpa using hy
      | succ l ih=>
        intro ys b o hy
        cases ys with
        | nil=>simp [RepEs]
        | cons y ys=>
          simp only [RepEs] at hy
          have:=ih ys b (o+k) hy.2
          rw [show o+(l+1)*k=o+k+l*k from by rw [Nat.add_mul,Nat.one_mul];omega]
          simpa using this
     have keyt:∀ (m:Nat) (ys:List (List AV)) (b o:Nat),RepEs c k ys b o→RepEs c k (ys.take m) b o:=by
      intro m
      induction m with
      | zero=>intro ys b o hy;simp [RepEs]
      | succ m ih=>
        intro ys b o hy
        cases ys with
        | nil=>simp [RepEs]
        | cons y ys=>
          simp only [RepEs,List.take_succ_cons] at hy ⊢
          exact ⟨hy.1,ih ys b _ hy.2⟩
     have:=key l _ _ _ (keyt m _ _ _ hr)
     unfold Addr.add
     split
     ·rename_i h0;rw [h0] at this;simpa using this
     ·exact this
 ·intro q hq
  cases all with
  | false=>cases hq
  | true=>
    have hm:=ha rfl
    simp only [tokIf] at hq
    rcases e7 q hq with e7|⟨a0,rfl,hs,hp,hh⟩
    ·left;rw [hlen];omega
    ·by_cases hcl:cap=l
     ·left;rw [hlen];omega
     ·right
      rw [if_neg hcl]
      have el:a0.off+xs.length*k=a0.off+l*k+(m - l)*k:=by
       rw [Nat.add_assoc,← Nat.add_mul];congr 2;omega
      have ec:a0.off+cap*k=a0.off+l*k+(cap - l)*k:=by
       rw [Nat.add_assoc,← Nat.add_mul];congr 2;omega
      refine ⟨⟨a0.block,a0.off+l*k,none⟩,?_,rfl,?_,?_⟩
      ·simp only [Option.map_some,Addr.add]
       split
       ·rename_i h0;rw [h0];cases a0;simp_all
       ·rfl
      ·rw [hlen,hp];simp only [el]
      ·simp only;rw [← ec];exact hh
theorem run_slice_sl {t e:TypeId} {base:Option Addr} {len cap:Nat} (hu:P.underlying t=some (.slice e)) (hk:∃ i,P.info? e=some i) {vlo vhi:Option Value} {lo hi:Int}
  (hlo:vlo=none∧lo=0∨∃ k,vlo=some (.int k lo)) (hhi:vhi=none∧hi=len∨∃ k,vhi=some (.int k hi)) (h0:0≤lo) (h1:lo≤hi) (h2:hi≤cap) (hc:len≤cap) :
  (Instr.sliceAt t (.slice base len cap) vlo vhi none).run P w=.ok (sliced base lo.toNat hi.toNat cap (P.cellsOf e)) w:=by
 obtain ⟨i,hi'⟩:=hk
 have p1:0≤hi:=by omega
 have p2:hi≤cap:=by omega
 have b1:((hi.toNat:Nat):Int)=hi:=by omega
 have b2:hi=(len:Int)→hi.toNat=len:=by omega
 rcases hlo with ⟨rfl,rfl⟩|⟨kl,rfl⟩
 ·rcases hhi with ⟨rfl,e⟩|⟨kh,rfl⟩
  ·simp [Instr.sliceAt,run_und hu,Instr.slice,Instr.sliceBounds,run_sizeT hi',sliced,b2 e]
  ·simp [Instr.sliceAt,run_und hu,Instr.slice,Instr.sliceBounds,Instr.sliceBound,asIntOf,run_sizeT hi',sliced,p1,p2]
 ·rcases hhi with ⟨rfl,e⟩|⟨kh,rfl⟩
  ·have:lo≤(len:Int):=by omega
   simp [Instr.sliceAt,run_und hu,Instr.slice,Instr.sliceBounds,Instr.sliceBound,asIntOf,run_sizeT hi',sliced,b2 e,h0,this]
  ·have:lo≤max hi 0:=by omega
   simp [Instr.sliceAt,run_und hu,Instr.slice,Instr.sliceBounds,Instr.sliceBound,asIntOf,run_sizeT hi',sliced,p1,p2,h0,b1,h1,this]
theorem run_slice_st {t:TypeId} {s:ByteArray} (hu:P.underlying t=some .string) {vlo vhi:Option Value} {lo hi:Int}
  (hlo:vlo=none∧lo=0∨∃ k,vlo=some (.int k lo)) (hhi:vhi=none∧hi=s.size∨∃ k,vhi=some (.int k hi)) (h0:0≤lo) (h1:lo≤hi) (h2:hi≤s.size) :
  (Instr.sliceAt t (.string s) vlo vhi none).run P w=.ok (.string (s.extract lo.toNat hi.toNat)) w:=by
 have p1:0≤hi:=by omega
 have b1:((hi.toNat:Nat):Int)=hi:=by omega
 have b2:hi=(s.size:Int)→hi.toNat=s.size:=by omega
 rcases hlo with ⟨rfl,rfl⟩|⟨kl,rfl⟩
 ·rcases hhi with ⟨rfl,e⟩|⟨kh,rfl⟩
  ·simp [Instr.sliceAt,run_und hu,Instr.slice,Instr.sliceBounds,b2 e]
  ·simp [Instr.sliceAt,run_und hu,Instr.slice,Instr.sliceBounds,Instr.sliceBound,asIntOf,p1,h2]
 ·rcases hhi with ⟨rfl,e⟩|⟨kh,rfl⟩
  ·have:lo≤(s.size:Int):=by omega
   simp [Instr.sliceAt,run_und hu,Instr.slice,Instr.sliceBounds,Instr.sliceBound,asIntOf,b2 e,h0,this]
  ·have:lo≤max hi 0:=by omega
   simp [Instr.sliceAt,run_und hu,Instr.slice,Instr.sliceBounds,Instr.sliceBound,asIntOf,p1,h2,h0,b1,h1,this]
theorem sliceP_ok {c:Cx} {g:G} (he:∀ e∈g,e.2.1=e.2.2) {t:TypeId} {x:AV} {u:Value} {lo hi:Int} {all:Bool} {K:AV→Prop} {vlo vhi:Option Value} {m:Nat}
  (h:sliceP g x lo hi all K) (hu:Rep c x u) (hm:lenOf? x=some m) (hty:sliceTy P t x=true)
  (hlo:vlo=none∧lo=0∨∃ k,vlo=some (.int k lo)) (hhi:vhi=none∧hi=m∧all=true∨(∃ k,vhi=some (.int k hi))∧all=false) :
  ∃ v s,K v∧Rep c v s∧(Instr.sliceAt t u vlo vhi none).run P c.w=.ok s c.w:=by
 cases x<;>try (simp [lenOf?] at hm;done)
 case str s=>
  simp [lenOf?] at hm;subst hm
  simp only [sliceP] at h
  obtain ⟨hb,hk⟩:=h
  obtain ⟨h0,h1,h2⟩:=gP_he he hb
  have hty':P.underlying t=some .string:=by
   unfold sliceTy at hty
   cases hud:P.underlying t with
   | none=>simp [hud] at hty
   | some d=>cases d<;>simp_all
  rw [Rep] at hu
  obtain ⟨b,rfl,rfl,hl⟩:=hu
  have hsz:(b.data.toList.length:Int)=b.size:=rfl
  rw [hsz] at h2
  refine ⟨_,_,hk,?_,run_slice_st (w:=c.w) hty' hlo (by rcases hhi with ⟨e1,e2,_⟩|⟨e1,_⟩;exact .inl ⟨e1,e2⟩;exact .inr e1) h0 h1 h2⟩
  rw [Rep]
  refine ⟨_,rfl,?_,?_⟩
  ·rw [ByteArray.data_extract,Array.toList_extract,List.extract_eq_take_drop,List.drop_take]
  ·simp only [List.length_drop,List.length_take];omega
 case sl k q xs=>
  simp [lenOf?] at hm;subst hm
  simp only [sliceP] at h
  obtain ⟨hb,hk⟩:=h
  obtain ⟨h0,h1,h2⟩:=gP_he he hb
  unfold sliceTy at hty
  cases hud:P.underlying t with
  | none=>simp [hud] at hty
  | some d=>
  cases d<;>try (simp [hud] at hty;done)
  rename_i e
  simp only [hud] at hty
  have hcell:=Nat.eq_of_beq_eq_true hty
  have hu':=hu
  simp only [Rep] at hu'
  obtain ⟨base,cap,rfl,e1,e2,e3,_⟩:=hu'
  have hi':∃ i,P.info? e=some i:=by
   cases hie:P.info? e with
   | none=>simp [Program.cellsOf,hie] at hcell;omega
   | some i=>exact ⟨i,rfl⟩
  refine ⟨_,_,hk,?_,run_slice_sl (w:=c.w) hud hi' hlo (by rcases hhi with ⟨e1,e2,_⟩|⟨e1,_⟩;exact .inl ⟨e1,e2⟩;exact .inr e1) h0 h1 (by omega) e1⟩
  rw [hcell]
  exact sliced_ok (l:=lo.toNat) (m:=hi.toNat) all e3 hu (by omega) (by omega) (fun ha=>by rcases hhi with ⟨_,e,_⟩|⟨_,e⟩;omega;simp [ha] at e)
 case nilS=>
  simp [lenOf?] at hm;subst hm
  simp only [sliceP] at h
  obtain ⟨hb,hk⟩:=h
  obtain ⟨h0,h1⟩:=gP_he he hb
  unfold sliceTy at hty
  cases hud:P.underlying t with
  | none=>simp [hud] at hty
  | some d=>
  cases d<;>try (simp [hud] at hty;done)
  rename_i e
  simp only [hud] at hty
  have hcell:=Nat.le_of_ble_eq_true hty
  rw [Rep] at hu
  subst hu
  have hi':∃ i,P.info? e=some i:=by
   cases hie:P.info? e with
   | none=>simp [Program.cellsOf,hie] at hcell
   | some i=>exact ⟨i,rfl⟩
  have hr:=run_slice_sl (w:=c.w) (base:=none) (len:=0) (cap:=0) hud hi' hlo (by rcases hhi with ⟨e1,e2,_⟩|⟨e1,_⟩;exact .inl ⟨e1,by omega⟩;exact .inr e1) (by omega) (by omega) (by omega) (Nat.le_refl 0)
  refine ⟨_,_,hk,?_,hr⟩
  subst h0 h1
  simp [Rep,sliced]
 case osl b off n k=>
  simp [lenOf?] at hm;subst hm
  simp only [sliceP] at h
  obtain ⟨hb,hk⟩:=h
  obtain ⟨h0,h1,h2,h3⟩:=gP_he he hb
  unfold sliceTy at hty
  cases hud:P.underlying t with
  | none=>simp [hud] at hty
  | some d=>
  cases d<;>try (simp [hud] at hty;done)
  rename_i e
  simp only [hud] at hty
  have hcell:=Nat.eq_of_beq_eq_true hty
  rw [Rep] at hu
  obtain ⟨p,cap,o',x1,x2,rfl,x3,x4,x5,x6,x7,x8⟩:=hu
  have hi':∃ i,P.info? e=some i:=by
   cases hie:P.info? e with
   | none=>simp [Program.cellsOf,hie] at hcell;omega
   | some i=>exact ⟨i,rfl⟩
  refine ⟨_,_,hk,?_,run_slice_sl (w:=c.w) hud hi' hlo (by rcases hhi with ⟨e1,e2,_⟩|⟨e1,_⟩;exact .inl ⟨e1,e2⟩;exact .inr e1) h0 h1 (by omega) x3⟩
  rw [hcell,Rep]
  obtain ⟨cs,tt,ff,y1,y2⟩:=x6
  have hcap:lo.toNat*k+(cap - lo.toNat)*k=cap*k:=by rw [← Nat.add_mul,Nat.add_sub_cancel' (by omega)]
  by_cases hcl:cap=lo.toNat
  ·refine ⟨p,cap - lo.toNat,o',x1,x2,?_,by omega,by omega,x5,⟨cs,tt,ff,y1,by omega⟩,by omega,by omega⟩
   unfold sliced
   rw [if_pos hcl]
  ·have:=x7 (by omega)
   subst this
   refine ⟨p,cap - lo.toNat,o'+lo.toNat*k,x1,x2,?_,by omega,by omega,x5,⟨cs,tt,ff,y1,by omega⟩,fun _=>rfl,by omega⟩
   unfold sliced
   rw [if_neg hcl]
   have hadd:(⟨p.block,p.off+o',none⟩:Addr).add (lo.toNat*k)=⟨p.block,p.off+(o'+lo.toNat*k),none⟩:=by
    unfold Addr.add
    split
    ·rename_i h0;rw [h0];simp
    ·simp [Nat.add_assoc]
   simp only [Option.map_some,hadd]
 case oslc b off n cap k=>
  simp [lenOf?] at hm;subst hm
  simp only [sliceP] at h
  obtain ⟨hb,hk⟩:=h
  obtain ⟨h0,h1,h2,h3⟩:=gP_he he hb
  unfold sliceTy at hty
  cases hud:P.underlying t with
  | none=>simp [hud] at hty
  | some d=>
  cases d<;>try (simp [hud] at hty;done)
  rename_i e
  simp only [hud] at hty
  have hcell:=Nat.eq_of_beq_eq_true hty
  rw [Rep] at hu
  obtain ⟨p,x1,x2,rfl,x3,x4,x5,x6,x8⟩:=hu
  have hi':∃ i,P.info? e=some i:=by
   cases hie:P.info? e with
   | none=>simp [Program.cellsOf,hie] at hcell;omega
   | some i=>exact ⟨i,rfl⟩
  refine ⟨_,_,hk,?_,run_slice_sl (w:=c.w) hud hi' hlo (by rcases hhi with ⟨e1,e2,_⟩|⟨e1,_⟩;exact .inl ⟨e1,e2⟩;exact .inr e1) h0 h1 h2 x3⟩
  rw [hcell,Rep]
  obtain ⟨cs,tt,ff,y1,y2⟩:=x6
  have hcap:lo.toNat*k+(cap - lo.toNat)*k=cap*k:=by rw [← Nat.add_mul,Nat.add_sub_cancel' (by omega)]
  unfold offC
  by_cases hcl:cap=lo.toNat
  ·rw [if_pos hcl]
   refine ⟨p,x1,x2,?_,by omega,by unfold LMAX;omega,x5,⟨cs,tt,ff,y1,by omega⟩,by omega⟩
   unfold sliced
   rw [if_pos hcl]
  ·rw [if_neg hcl]
   refine ⟨p,x1,x2,?_,by omega,by unfold LMAX;omega,x5,⟨cs,tt,ff,y1,by omega⟩,by omega⟩
   unfold sliced
   rw [if_neg hcl]
   have hadd:(⟨p.block,p.off+off,none⟩:Addr).add (lo.toNat*k)=⟨p.block,p.off+(off+lo.toNat*k),none⟩:=by
    unfold Addr.add
    split
    ·rename_i h0;rw [h0];simp
    ·simp [Nat.add_assoc]
   simp only [Option.map_some,hadd]
set_option maxHeartbeats 1000000 in
theorem opQ_ok {o:Oper} {g:G} {K:AV→Prop} {next:Act→World→Prop} {Q:Exit→Act→World→Prop}
  (hq:opQ P r g h K o.op) (hc:Conc n X g0 r h a w) (hg:holdsC a g) (he:∀ e∈g,e.2.1=e.2.2) (hn:NextQ X g0 h w K o.dst a next):o.wp P a w next Q:=by
 obtain ⟨dst,op,ty,pos,aft,gd⟩:=o
 simp only at hq hn
 cases op
 case move x=>
  simp only [opQ] at hq
  cases hx:opnd r g x with
  | none=>simp [hx] at hq
  | some v=>simp only [hx] at hq;exact q_val hc hn hq (hc.opnd hg hx) (by simp [execOp])
 case assign x=>
  simp only [opQ] at hq
  cases hx:opnd r g x with
  | none=>simp [hx] at hq
  | some v=>simp only [hx] at hq;exact q_val hc hn hq (hc.opnd hg hx) (by simp [execOp])
 case pick x y z=>
  unfold opQ at hq
  split at hq<;>try contradiction
  ·rename_i t ta heq
   injection heq with e1 e2 e3
   subst e1;subst e2;subst e3
   cases ht:opnd r g (.tmp t) with
   | none=>simp [ht] at hq
   | some vt=>
     cases vt<;>simp [ht] at hq
     rename_i b
     cases ha:opnd r (g++[(t,b,true)]) (.tmp ta) with
     | none=>simp [ha] at hq
     | some va=>
       cases va<;>simp [ha] at hq
       rename_i xb
       have hrt:=hc.opnd hg ht
       rw [Rep] at hrt
       cases b with
       | false=>exact q_val (v:=.bool false) (u:=.bool false) hc hn (by simpa using hq) (by rw [Rep]) (by have e1:a.eval (.const (.bool false))=.bool false:=rfl;have e2:a.eval (.const (.bool true))=.bool true:=rfl;simp [execOp,hrt,asBool,e1,e2])
       | true=>
         have htm:a.tmps[t]?=some (.bool true):=by
          cases hh:a.tmps[t]? with
          | none=>simp [Act.eval,hh,undef] at hrt
          | some u=>simp [Act.eval,hh] at hrt;rw [hrt]
         have hra:=hc.opnd (g:=g++[(t,true,true)]) (fun e he'=>by
          rcases List.mem_append.1 he' with h1|h1
          ·exact hg e h1
          ·simp at h1;subst h1;exact htm) ha
         rw [Rep] at hra
         exact q_val (v:=.bool xb) (u:=.bool xb) hc hn (by simpa using hq) (by rw [Rep]) (by simp [execOp,hrt,hra,asBool])
  ·rename_i t ta heq
   injection heq with e1 e2 e3
   subst e1;subst e2;subst e3
   cases ht:opnd r g (.tmp t) with
   | none=>simp [ht] at hq
   | some vt=>
     cases vt<;>simp [ht] at hq
     rename_i b
     cases ha:opnd r (g++[(t,b,false)]) (.tmp ta) with
     | none=>simp [ha] at hq
     | some va=>
       cases va<;>simp [ha] at hq
       rename_i xb
       have hrt:=hc.opnd hg ht
       rw [Rep] at hrt
       cases b with
       | true=>exact q_val (v:=.bool true) (u:=.bool true) hc hn (by simpa using hq) (by rw [Rep]) (by have e1:a.eval (.const (.bool false))=.bool false:=rfl;have e2:a.eval (.const (.bool true))=.bool true:=rfl;simp [execOp,hrt,asBool,e1,e2])
       | false=>
         have htm:a.tmps[t]?=some (.bool false):=by
          cases hh:a.tmps[t]? with
          | none=>simp [Act.eval,hh,undef] at hrt
          | some u=>simp [Act.eval,hh] at hrt;rw [hrt]
         have hra:=hc.opnd (g:=g++[(t,false,false)]) (fun e he'=>by
          rcases List.mem_append.1 he' with h1|h1
          ·exact hg e h1
          ·simp at h1;subst h1;exact htm) ha
         rw [Rep] at hra
         exact q_val (v:=.bool xb) (u:=.bool xb) hc hn (by simpa using hq) (by rw [Rep]) (by simp [execOp,hrt,hra,asBool])
 case binOp op t x y yt=>
  simp only [opQ] at hq
  cases hx:opnd r g x with
  | none=>simp [hx] at hq
  | some u=>
    cases hy:opnd r g y with
    | none=>simp [hx,hy] at hq
    | some v=>
      simp only [hx,hy] at hq
      obtain ⟨z,s,h1,h2,h3⟩:=binP_ok (ox:=x) (oy:=y) he hq (hc.opnd hg hx) (hc.opnd hg hy)
      refine q_val hc hn h1 h2 ?_
      simp only [execOp,Sem.run_bind,h3,Result.andThen,Sem.run_pure]
 case unOp op t x=>
  unfold opQ at hq
  split at hq<;>try contradiction
  rename_i t' x' heq
  injection heq with e1 e2 e3
  subst e1;subst e2;subst e3
  cases hx:opnd r g x with
  | none=>simp [hx] at hq
  | some v=>
    cases v<;>simp [hx] at hq
    rename_i b
    have hr:=hc.opnd hg hx
    rw [Rep] at hr
    exact q_val (v:=.bool !b) (u:=.bool !b) hc hn hq (by rw [Rep]) (by simp [execOp,hr,Op.unary])
 case fieldAddr s x f=>
  simp only [opQ] at hq
  cases hx:opnd r g x with
  | none=>simp [hx] at hq
  | some v=>
    have hr:=hc.opnd hg hx
    cases v<;>try (simp [hx] at hq;done)
    case iptr cs=>
     simp only [hx] at hq
     cases hf:fieldOf P s f with
     | none=>simp [hf] at hq
     | some fd=>
       simp only [hf] at hq
       cases hd:dropN fd.offset cs with
       | none=>simp [hd] at hq
       | some l=>
         simp only [hd] at hq
         split at hq
         ·rename_i hs
          obtain ⟨d1,rfl⟩:=dropN_eq hd
          rw [Rep] at hr
          obtain ⟨b,ofs,hv,hcs⟩:=hr
          refine q_val (u:=.pointer (some ⟨b,ofs+fd.offset,none⟩)) hc hn hq ?_ ?_
          ·rw [Rep];exact ⟨b,_,rfl,RepCs.drop _ d1 hcs⟩
          ·simp [execOp,hv,run_fieldAt hf hs]
         ·exact hq.elim
    case optr b ofs=>
     simp only [hx] at hq
     cases hf:fieldOf P s f with
     | none=>simp [hf] at hq
     | some fd=>
       simp only [hf] at hq
       split at hq
       ·rename_i hs
        rw [Rep] at hr
        obtain ⟨p,hp,hsp,hv⟩:=hr
        refine q_val (u:=.pointer (some ⟨p.block,p.off+ofs+fd.offset,none⟩)) hc hn hq ?_ ?_
        ·rw [Rep];exact ⟨p,hp,hsp,by rw [Nat.add_assoc]⟩
        ·simp [execOp,hv,run_fieldAt hf hs]
       ·exact hq.elim
 case load t x=>
  simp only [opQ] at hq
  cases hx:opnd r g x with
  | none=>simp [hx] at hq
  | some v=>
    simp only [hx] at hq
    obtain ⟨z,s,h1,h2,h3⟩:=load_ok (t:=t) (K:=K) hc.cw (hc.opnd hg hx) (by cases v<;>exact hq)
    exact q_val hc hn h1 h2 (by simp [execOp,h3])
 case nilCheck x=>
  simp only [opQ] at hq
  cases hx:opnd r g x with
  | none=>simp [hx] at hq
  | some v=>
    have hr:=hc.opnd hg hx
    cases v<;>try (simp [hx] at hq;done)
    case iptr cs=>
     simp only [hx] at hq
     refine q_val hc hn hq hr ?_
     rw [Rep] at hr
     obtain ⟨b,ofs,hv,_⟩:=hr
     simp [execOp,hv]
    case optr b ofs=>
     simp only [hx] at hq
     refine q_val hc hn hq hr ?_
     rw [Rep] at hr
     obtain ⟨p,_,_,hv⟩:=hr
     simp [execOp,hv]
 case field s x f=>
  simp only [opQ] at hq
  cases hx:opnd r g x with
  | none=>simp [hx] at hq
  | some v=>
    have hr:=hc.opnd hg hx
    cases v<;>try (simp [hx] at hq;done)
    rename_i cs
    simp only [hx] at hq
    cases hf:fieldOf P s f with
    | none=>simp [hf] at hq
    | some fd=>
      simp only [hf] at hq
      cases hd:dropN fd.offset cs with
      | none=>simp [hd] at hq
      | some l=>
        simp only [hd] at hq
        obtain ⟨d1,rfl⟩:=dropN_eq hd
        rw [Rep] at hr
        obtain ⟨us,hv,ho,hus⟩:=hr
        obtain ⟨fs,hu,hfd⟩:=fieldOf_ok hf
        have hrd:=RepVs.drop fd.offset hus
        unfold loadI at hq
        cases hagg:aggT P fd.type with
        | none=>simp [hagg] at hq
        | some bb=>
        obtain ⟨hrun0,d,hdd⟩:=run_aggT (w:=w) hagg
        obtain ⟨i,hi⟩:=info_of_und hdd
        cases bb with
        | true=>
          simp only [hagg] at hq
          cases ht:takeN (P.cellsOf fd.type) (cs.drop fd.offset) with
          | none=>simp [ht] at hq
          | some l=>
            simp only [ht] at hq
            obtain ⟨t1,rfl⟩:=takeN_eq ht
            refine q_val (u:=.agg (us.extract fd.offset (fd.offset+P.cellsOf fd.type))) hc hn hq ?_ ?_
            ·rw [Rep]
             refine ⟨_,rfl,fun u hu=>?_,?_⟩
             ·have hu':u∈(us.extract fd.offset (fd.offset+P.cellsOf fd.type)).toList:=Array.mem_toList_iff.2 hu
              rw [Array.toList_extract,List.extract_eq_take_drop] at hu'
              exact ho u (by simpa using List.mem_of_mem_drop (List.mem_of_mem_take hu'))
             rw [Array.toList_extract,List.extract_eq_take_drop]
             simpa using RepVs.take (P.cellsOf fd.type) hrd
            ·simp [execOp,hv,Instr.field,run_und hu,hfd,asAgg,part,hrun0,run_sizeT hi]
        | false=>
          simp only [hagg] at hq
          cases hl:cs.drop fd.offset with
          | nil=>simp [hl] at hq
          | cons y l=>
            simp only [hl] at hq
            rw [hl] at hrd
            simp only [RepVs] at hrd
            obtain ⟨u,rr,e,h4,_⟩:=hrd
            refine q_val (u:=u) hc hn hq h4 ?_
            have hget:us[fd.offset]?=some u:=by
             have:=congrArg (·[0]?) e
             simpa using this
            simp [execOp,hv,Instr.field,run_und hu,hfd,asAgg,part,hrun0,hget]
 case box t x=>
  simp only [opQ] at hq
  cases hx:opnd r g x with
  | none=>simp [hx] at hq
  | some v=>
    simp only [hx] at hq
    cases hv:cellsV v with
    | none=>simp [hv] at hq
    | some l=>
      simp only [hv] at hq
      split at hq
      ·have hr:=hc.opnd hg hx
       obtain ⟨h1,h2⟩:=cellsV_rep hv hr
       obtain ⟨c1,c2⟩:=hc.cw.alloc (.cells (a.eval x).cells t)
       refine wp_value (u:=.pointer (some ⟨w.heap.size,0,none⟩)) (w':=w.alloc (.cells (a.eval x).cells t)) ?_ (hn _ g0 _ _ hq c1 ?_ c2)
       ·simp [execOp,Instr.box,newVar,newRow]
       ·rw [Rep];exact ⟨_,_,rfl,RepCs.new hc.cw h1 h2⟩
      ·exact hq.elim
 case indexAddr t x i=>
  simp only [opQ] at hq
  cases hud:P.underlying t with
  | none=>simp [hud] at hq
  | some d=>
  cases d<;>try (simp [hud] at hq;done)
  case array m e=>
   simp only [hud] at hq
   cases hie:P.info? e with
   | none=>simp [hie] at hq
   | some ie=>
   simp only [hie] at hq
   cases hx:opnd r g x with
   | none=>simp [hx] at hq
   | some v=>
     have hr:=hc.opnd hg hx
     cases v<;>try (simp [hx] at hq;done)
     rename_i cs
     simp only [hx] at hq
     cases hi:opnd r g i with
     | none=>simp [hi] at hq
     | some vi=>
       cases vi<;>try (simp [hi] at hq;done)
       rename_i ki m'
       simp only [hi] at hq
       obtain ⟨j,l,hgp,hd,hK⟩:=hq
       obtain ⟨rfl,hjl⟩:=gP_he he hgp
       obtain ⟨d1,rfl⟩:=dropN_eq hd
       have hri:=hc.opnd hg hi
       rw [Rep] at hri
       obtain ⟨hri,_⟩:=hri
       rw [Rep] at hr
       obtain ⟨b,ofs,hv,hcs⟩:=hr
       refine q_val (u:=.pointer (some ⟨b,ofs+j*P.cellsOf e,none⟩)) hc hn hK ?_ ?_
       ·rw [Rep];exact ⟨b,_,rfl,RepCs.drop _ d1 hcs⟩
       ·have hadd:(⟨b,ofs,none⟩:Addr).add (j*P.cellsOf e)=⟨b,ofs+j*P.cellsOf e,none⟩:=by
         unfold Addr.add
         split
         ·rename_i h0;rw [h0];rfl
         ·rfl
        simp [execOp,hv,hri,Instr.indexAt,Instr.sureAddr,asIntOf,run_und hud,hjl,run_sizeT hie,hadd]
  rename_i e
  simp only [hud] at hq
  cases hx:opnd r g x with
  | none=>simp [hx] at hq
  | some v=>
    have hr:=hc.opnd hg hx
    cases v<;>try (simp [hx] at hq;done)
    case sl k q xs=>
     simp only [hx] at hq
     split at hq<;>try contradiction
     rename_i hk
     have hk:=Nat.eq_of_beq_eq_true hk
     cases hi:opnd r g i with
     | none=>simp [hi] at hq
     | some vi=>
       cases vi<;>try (simp [hi] at hq;done)
       rename_i ki m
       simp only [hi] at hq
       obtain ⟨j,y,hgp,hK⟩:=hq
       obtain ⟨rfl,hj⟩:=gP_he he hgp
       have hri:=hc.opnd hg hi
       rw [Rep] at hri
       obtain ⟨hri,_⟩:=hri
       simp only [Rep] at hr
       obtain ⟨base,cap,hv,e1,e2,e3,e4,e5,e6,e7⟩:=hr
       have hjl:j<xs.length:=(List.getElem?_eq_some_iff.1 hj).1
       cases base with
       | none=>have:=e4 rfl;omega
       | some ad=>
         have hs:=e5 ad rfl (fun e=>by subst e;simp at hjl)
         have hcs:=RepEs.get (e6 ad rfl) hj
         have hie:∃ i,P.info? e=some i:=by
          cases hie:P.info? e with
          | none=>simp [Program.cellsOf,hie] at hk;omega
          | some i=>exact ⟨i,rfl⟩
         obtain ⟨ie,hie⟩:=hie
         refine q_val (u:=.pointer (some ⟨ad.block,ad.off+j*k,none⟩)) hc hn hK ?_ ?_
         ·rw [Rep];exact ⟨_,_,rfl,hcs⟩
         ·have hadd:ad.add (j*k)=⟨ad.block,ad.off+j*k,none⟩:=by
           unfold Addr.add
           split
           ·rename_i h0;rw [h0];cases ad;simp_all
           ·rfl
          simp [execOp,hv,hri,Instr.indexAt,asIntOf,run_und hud,hjl,run_sizeT hie,← hk,hadd]
    case osl b off len k=>
     simp only [hx] at hq
     split at hq<;>try contradiction
     rename_i hk
     have hk:=Nat.eq_of_beq_eq_true hk
     cases hi:opnd r g i with
     | none=>simp [hi] at hq
     | some vi=>
       cases vi<;>try (simp [hi] at hq;done)
       rename_i ki m
       simp only [hi] at hq
       obtain ⟨j,hgp,hK⟩:=hq
       obtain ⟨rfl,hjl⟩:=gP_he he hgp
       have hri:=hc.opnd hg hi
       rw [Rep] at hri
       obtain ⟨hri,_⟩:=hri
       obtain ⟨p,cap,hp,hs,hv,e1,e2,e3,e4,_⟩:=hr.oslE (by omega)
       have hie:∃ i,P.info? e=some i:=by
        cases hie:P.info? e with
        | none=>simp [Program.cellsOf,hie] at hk;omega
        | some i=>exact ⟨i,rfl⟩
       obtain ⟨ie,hie⟩:=hie
       refine q_val (u:=.pointer (some ⟨p.block,p.off+off+j*k,none⟩)) hc hn hK ?_ ?_
       ·rw [Rep];exact ⟨p,hp,hs,by rw [Nat.add_assoc]⟩
       ·have hadd:(⟨p.block,p.off+off,none⟩:Addr).add (j*k)=⟨p.block,p.off+off+j*k,none⟩:=by
         unfold Addr.add
         split
         ·rename_i h0;rw [h0];rfl
         ·rfl
        simp [execOp,hv,hri,Instr.indexAt,asIntOf,run_und hud,hjl,run_sizeT hie,← hk,hadd]
 case index t x i=>
  simp only [opQ] at hq
  cases hud:P.underlying t with
  | none=>simp [hud] at hq
  | some d=>
  cases d<;>try (simp [hud] at hq;done)
  simp only [hud] at hq
  cases hx:opnd r g x with
  | none=>simp [hx] at hq
  | some v=>
    have hr:=hc.opnd hg hx
    cases v<;>try (simp [hx] at hq;done)
    rename_i s
    simp only [hx] at hq
    cases hi:opnd r g i with
    | none=>simp [hi] at hq
    | some vi=>
      cases vi<;>try (simp [hi] at hq;done)
      rename_i ki m
      simp only [hi] at hq
      obtain ⟨j,y,hgp,hK⟩:=hq
      obtain ⟨rfl,hj⟩:=gP_he he hgp
      have hri:=hc.opnd hg hi
      rw [Rep] at hri
      rw [Rep] at hr
      obtain ⟨hri,_⟩:=hri
      obtain ⟨b,hv,rfl,hl⟩:=hr
      refine q_val (u:=.int .u8 (y.toNat:Int)) hc hn hK ?_ ?_
      ·rw [Rep]
       refine ⟨rfl,?_⟩
       have:=y.toNat_lt
       constructor<;>simp [IntKind.min,IntKind.max,IntKind.signed,IntKind.bits]<;>omega
      ·have hj':b[j]?=some y:=by
        have:b.data[j]?=some y:=by simpa using hj
        obtain ⟨hlt,e⟩:=Array.getElem?_eq_some_iff.1 this
        have hlt':j<b.size:=hlt
        simp only [getElem?_pos b j hlt']
        exact congrArg some e
       simp [execOp,hv,hri,Instr.index,asIntOf,run_und hud,hj']
 case extract x i=>
  simp only [opQ] at hq
  cases hx:opnd r g x with
  | none=>simp [hx] at hq
  | some v=>
    have hr:=hc.opnd hg hx
    cases v<;>try (simp [hx] at hq;done)
    rename_i vs
    simp only [hx] at hq
    cases hd:dropN i vs with
    | none=>simp [hd] at hq
    | some l=>
      simp only [hd] at hq
      obtain ⟨d1,rfl⟩:=dropN_eq hd
      cases hl:vs.drop i with
      | nil=>simp [hl] at hq
      | cons y l=>
        simp only [hl] at hq
        rw [Rep] at hr
        obtain ⟨us,hv,hus⟩:=hr
        have hrd:=RepVs.drop i hus
        rw [hl] at hrd
        simp only [RepVs] at hrd
        obtain ⟨u,rr,e,h4,_⟩:=hrd
        have hget:us[i]?=some u:=by
         have:=congrArg (·[0]?) e
         simpa using this
        exact q_val (u:=u) hc hn hq h4 (by simp [execOp,hv,Instr.extract,hget])
 case build t parts=>
  simp only [opQ] at hq
  have hpar:∀ (qs:List (Nat × Operand)) (ps:List (Nat × AV)),partsOf r g qs=some ps→(qs.map fun (i,x)=>(i,a.eval x)).map (·.1)=ps.map (·.1) ∧
    ∀ (i:Nat) (p:Nat × AV) (v:Nat × Value),ps[i]?=some p→(qs.map fun (i,x)=>(i,a.eval x))[i]?=some v→Rep ⟨g0,live X h,w⟩ p.2 v.2:=by
   intro qs
   induction qs with
   | nil=>intro ps hh;simp [partsOf] at hh;subst hh;simp
   | cons q qs ih=>
     intro ps hh
     obtain ⟨i0,x0⟩:=q
     unfold partsOf at hh
     cases hx:opnd r g x0 with
     | none=>simp [hx] at hh
     | some v0=>
       cases hr:partsOf r g qs with
       | none=>simp [hx,hr] at hh
       | some l=>
         simp [hx,hr] at hh
         subst hh
         obtain ⟨i1,i2⟩:=ih l hr
         refine ⟨by simpa using i1,fun i p v hp hv=>?_⟩
         cases i with
         | zero=>simp at hp hv;subst hp;subst hv;exact hc.opnd hg hx
         | succ i=>exact i2 i p v (by simpa using hp) (by simpa using hv)
  cases hud:P.underlying t with
  | none=>simp [hud] at hq
  | some d=>
  cases d<;>try (simp [hud] at hq;done)
  case array m e=>
   simp only [hud] at hq
   cases hie:P.info? e with
   | none=>simp [hie] at hq
   | some ie=>
   simp only [hie] at hq
   cases hps:partsOf r g parts.toList with
   | none=>simp [hps] at hq
   | some ps=>
   simp only [hps] at hq
   cases hz:zeroCs P t with
   | none=>simp [hz] at hq
   | some z=>
   simp only [hz] at hq
   cases hf:fillC ps (fun i=>some (i*ie.size,ie.size)) z with
   | none=>simp [hf] at hq
   | some cs=>
   simp only [hf] at hq
   obtain ⟨i1,i2⟩:=hpar _ _ hps
   obtain ⟨it,zv,hit,hzv,hzr,hzo⟩:=zeroCs_ok (c:=⟨g0,live X h,w⟩) hz
   obtain ⟨res,e1,e2,e3⟩:=fillC_ok (c:=⟨g0,live X h,w⟩) hf i1 i2 hzr hzo
   refine q_val (u:=.agg res) hc hn hq ?_ ?_
   ·rw [Rep];exact ⟨_,rfl,e3,e2⟩
   ·have hb:P.built t (parts.map fun (i,x)=>(i,a.eval x)).toList=some res:=by
     simp only [Program.built,hit,hud,hzv,hie]
     simpa using e1
    simp [execOp,run_build w t _ res hb]
  case struct fs=>
   simp only [hud] at hq
   cases hp:placesOf P fs.toList with
   | none=>simp [hp] at hq
   | some pl=>
   simp only [hp] at hq
   cases hps:partsOf r g parts.toList with
   | none=>simp [hps] at hq
   | some ps=>
   simp only [hps] at hq
   cases hz:zeroCs P t with
   | none=>simp [hz] at hq
   | some z=>
   simp only [hz] at hq
   cases hf:fillC ps (fun i=>pl[i]?) z with
   | none=>simp [hf] at hq
   | some cs=>
   simp only [hf] at hq
   obtain ⟨i1,i2⟩:=hpar _ _ hps
   obtain ⟨it,zv,hit,hzv,hzr,hzo⟩:=zeroCs_ok (c:=⟨g0,live X h,w⟩) hz
   obtain ⟨res,e1,e2,e3⟩:=fillC_ok (c:=⟨g0,live X h,w⟩) hf i1 i2 hzr hzo
   refine q_val (u:=.agg res) hc hn hq ?_ ?_
   ·rw [Rep];exact ⟨_,rfl,e3,e2⟩
   ·have hb:P.built t (parts.map fun (i,x)=>(i,a.eval x)).toList=some res:=by
     simp only [Program.built,hit,hud,hzv,placesOf_eq hp]
     simpa using e1
    simp [execOp,run_build w t _ res hb]
 case buildSlice t m parts=>
  simp only [opQ] at hq
  cases hud:P.underlying t with
  | none=>simp [hud] at hq
  | some d=>
  cases d<;>try (simp [hud] at hq;done)
  rename_i e
  simp only [hud] at hq
  cases hl:elemsOf r g (P.cellsOf e) 0 parts.toList with
  | none=>simp [hl] at hq
  | some l=>
  simp only [hl] at hq
  split at hq<;>try contradiction
  rename_i q1
  split at hq<;>try contradiction
  rename_i q2
  split at hq<;>try contradiction
  rename_i q3
  cases hz:zeroCs P e with
  | none=>simp [hz] at hq
  | some z=>
  simp only [hz] at hq
  split at hq<;>try contradiction
  rename_i q4
  have q1:=Nat.eq_of_beq_eq_true q1
  have q2:=Nat.le_of_ble_eq_true q2
  have q3:=Nat.le_of_ble_eq_true q3
  have q4:=Nat.eq_of_beq_eq_true q4
  obtain ⟨ie,zv,hie,hzv,hzr,hzo⟩:=zeroCs_ok (c:=⟨g0,live X h,w⟩) hz
  have hsz:ie.size=P.cellsOf e:=by simp [Program.cellsOf,hie]
  have hzl:zv.cells.size=P.cellsOf e:=by have:=hzr.length;simp at this;omega
  have hzget:∀ u∈(Array.range (m*P.cellsOf e)).map (zv.cells[· % zv.cells.size]!),u.oneCell'=true:=by
   intro u hu
   obtain ⟨j,hj,rfl⟩:=Array.mem_map.1 hu
   have hlt:j % zv.cells.size<zv.cells.size:=Nat.mod_lt _ (by omega)
   rw [getElem!_pos zv.cells _ hlt]
   exact hzo _ (Array.getElem_mem _)
  by_cases hm:m=0
  ·subst hm
   have hl0:l=[]:=List.eq_nil_of_length_eq_zero q1
   subst hl0
   have hps:parts.toList=[]:=by
    cases hh:parts.toList with
    | nil=>rfl
    | cons q qs=>
      rw [hh] at hl
      obtain ⟨i0,x0⟩:=q
      unfold elemsOf at hl
      (repeat' split at hl)<;>simp_all
   have hpe:parts=#[]:=by simpa using hps
   obtain ⟨c1,c2⟩:=hc.cw.alloc (.cells #[] e)
   refine wp_value (u:=.slice (some ⟨w.heap.size,0,none⟩) 0 0) (w':=w.alloc (.cells #[] e)) ?_ (hn _ g0 _ _ hq c1 ?_ c2)
   ·have e0:(Array.map (fun _=>(default:Value)) (Array.range 0))=#[]:=by simp [Array.range]
    simp [execOp,Instr.buildSlice,run_und hud,run_sizeT hie,hpe,Instr.fill,newRow,e0]
   ·simp only [Rep]
    exact ⟨_,0,rfl,by simp,by simp,by omega,by simp,by simp,by simp [RepEs],by simp⟩
  ·obtain ⟨res,us,e1,e2,e3,e4,e5,e6,e7⟩:=elems_ok hc hg hl ((Array.range (m*P.cellsOf e)).map (zv.cells[· % zv.cells.size]!))
    (by
      have:∀ (ps:List (Nat × Operand)) (k:Nat) (l:List (List AV)),elemsOf r g (P.cellsOf e) k ps=some l→l.length=ps.length:=by
       intro ps
       induction ps with
       | nil=>intro k l hh;simp [elemsOf] at hh;subst hh;rfl
       | cons q qs ih=>
         intro k l hh
         obtain ⟨i0,x0⟩:=q
         unfold elemsOf at hh
         split at hh<;>try contradiction
         split at hh<;>try contradiction
         split at hh<;>try contradiction
         split at hh<;>try contradiction
         split at hh<;>try contradiction
         rename_i l' hr
         cases hh
         simp [ih _ _ hr]
      have:=this _ _ _ hl
      rw [Nat.zero_add,← this,q1];simp) hzget
   have hml:parts.toList.length=m:=by omega
   have hmpos:0<m*P.cellsOf e:=Nat.mul_pos (by omega) (by omega)
   have hres:res.toList=us:=by
    rw [e6]
    simp only [Nat.zero_mul,List.take_zero,List.nil_append,Nat.zero_add,hml]
    rw [List.drop_of_length_le (by simp)]
    simp
   have hrun:=run_buildSlice (P:=P) w t e m (parts.map fun (i,x)=>(i,a.eval x)) res ie zv hud hie hzv (by rw [hsz];omega) (by rw [hsz];omega)
    (by rw [hsz];simpa using e1)
   obtain ⟨c1,c2⟩:=hc.cw.alloc (.cells res e)
   refine wp_value (u:=.slice (some ⟨w.heap.size,0,none⟩) m m) (w':=w.alloc (.cells res e)) ?_ (hn _ g0 _ _ hq c1 ?_ c2)
   ·simp [execOp,hrun]
   ·have hcs:=RepCs.new (t:=e) (us:=res) hc.cw (by rw [hres];exact e4) e7
    simp only [Rep]
    have hml64:m≤65536:=Nat.le_trans (Nat.le_mul_of_pos_right m (by omega)) q3
    refine ⟨_,m,by rw [q1],by omega,by rw [q1];unfold LMAX;omega,by omega,by simp,by simp,?_,by simp⟩
    intro ad ha
    simp at ha;subst ha
    exact RepEs.flat e3 hcs
 case slice t x lo hi mx=>
  cases mx with
  | some _=>simp [opQ] at hq
  | none=>
  simp only [opQ] at hq
  cases hx:opnd r g x with
  | none=>simp [hx] at hq
  | some v=>
  simp only [hx] at hq
  split at hq<;>try contradiction
  rename_i hty
  cases hm:lenOf? v with
  | none=>simp [hm] at hq
  | some m=>
  simp only [hm] at hq
  cases hlo:optInt r g lo 0 with
  | none=>simp [hlo] at hq
  | some la=>
  simp only [hlo] at hq
  cases hhi:optInt r g hi (m:Int) with
  | none=>simp [hhi] at hq
  | some ha=>
  simp only [hhi] at hq
  have hint:∀ (oo:Option Operand) (d z:Int),optInt r g oo d=some z→(oo=none∧z=d)∨∃ y k,oo=some y∧a.eval y=.int k z:=by
   intro oo d z hz
   cases oo with
   | none=>simp [optInt] at hz;exact .inl ⟨rfl,hz.symm⟩
   | some y=>
     right
     unfold optInt at hz
     simp only at hz
     cases hy:opnd r g y with
     | none=>simp [hy] at hz
     | some vy=>
       simp only [hy] at hz
       have hry:=hc.opnd hg hy
       cases vy<;>simp [intOf?] at hz
       subst hz
       rw [Rep] at hry
       exact ⟨y,_,rfl,hry.1⟩
  obtain ⟨z,s,k1,k2,k3⟩:=sliceP_ok (t:=t) (vlo:=lo.map a.eval) (vhi:=hi.map a.eval) he hq (hc.opnd hg hx) hm hty
   (by
     rcases hint _ _ _ hlo with ⟨e1,e2⟩|⟨y,k,e1,e2⟩
     ·exact .inl ⟨by simp [e1],e2⟩
     ·exact .inr ⟨k,by simp [e1,e2]⟩)
   (by
     rcases hint _ _ _ hhi with ⟨e1,e2⟩|⟨y,k,e1,e2⟩
     ·subst e1;exact .inl ⟨rfl,e2,rfl⟩
     ·subst e1;exact .inr ⟨⟨k,by simp [e2]⟩,rfl⟩)
  exact q_val hc hn k1 k2 (by simp [execOp,k3])
 case convert s t x=>
  simp only [opQ] at hq
  cases hus:P.underlying s with
  | none=>simp [hus] at hq
  | some ds=>
  cases hud:P.underlying t with
  | none=>simp [hus,hud] at hq
  | some d=>
  cases hx:opnd r g x with
  | none=>cases d<;>simp [hus,hud,hx] at hq
  | some v=>
  have hr:=hc.opnd hg hx
  simp only [hus,hud,hx] at hq
  cases d<;>try (simp at hq;done)
  case int k=>
   cases v<;>try (simp at hq;done)
   rename_i k' m
   simp only at hq
   rw [Rep] at hr
   obtain ⟨hv,_⟩:=hr
   obtain ⟨z,h1,h2⟩:=arith_ok (c:=⟨g0,live X h,w⟩) he hq
   refine q_val hc hn h1 h2 ?_
   simp [execOp,convert,hv,run_und hud,run_und hus,Conv.intToInt]
  case string=>
   cases v<;>try (simp at hq;done)
   ·rename_i bs
    simp only at hq
    refine q_val hc hn hq hr ?_
    rw [Rep] at hr
    obtain ⟨b,hv,_⟩:=hr
    simp [execOp,convert,hv,run_und hud,run_und hus]
   ·rename_i k tk xs
    match k,hq,hr with
    | 1,hq,hr=>
    simp only [runesP,hus] at hq
    cases ds<;>try (simp at hq;done)
    rename_i e
    simp only at hq
    split at hq<;>try contradiction
    rename_i hue
    obtain ⟨ns,⟨rfl,hne,hlen⟩,hK⟩:=hq
    rw [Rep] at hr
    obtain ⟨base,cap,hv,e1,e2,e3,e4,e5,e6,e7⟩:=hr
    simp only [List.length_map] at hv e1 e2
    cases base with
    | none=>
      have:=e4 rfl
      have:ns.length≠0:=by simpa using hne
      omega
    | some ad=>
      have hs:ad.spot=none:=e5 ad rfl (by simpa using hne)
      obtain ⟨f1,f2⟩:=RepEs.toFlat (e6 ad rfl)
      obtain ⟨us,g1,g2,g3⟩:=RepCs.load f2
      have hfl:(ns.map (fun n=>[AV.int .i32 n])).flatten=ns.map (AV.int .i32):=flat1 _ ns
      rw [hfl] at g1 g3
      have hadd:∀ j,ad.add j=⟨ad.block,ad.off+j,none⟩:=by
       intro j
       unfold Addr.add
       split
       ·rename_i h0;rw [h0];cases ad;simp_all
       ·rfl
      have hcell:∀ j,j<ns.length→w.cell? (ad.add j)=some (.int .i32 (ns.getD j 0)):=by
       intro j hj
       obtain ⟨u,hu,hru⟩:=g3.get j (.int .i32 ns[j]) (by simp [hj])
       rw [Rep] at hru
       rw [hadd,(g2 j u hu).1,hru.1]
       simp [List.getD,hj]
      have hrun:=run_convert_runes (P:=P) w s t e ad ns.length cap ns (Nat.le_refl _) hus hue hud hcell
      rw [List.take_length] at hrun
      refine q_val hc hn hK (u:=.string (runesBytes ns)) ?_ ?_
      ·rw [Rep]
       refine ⟨_,rfl,rfl,?_⟩
       have:=runesBytes_size_le ns
       unfold runesL LMAX
       have e9:(runesBytes ns).data.toList.length=(runesBytes ns).size:=by rfl
       omega
      ·simp [execOp,hv,hrun]
 case makeFunc fn first caps=>
  cases fn<;>try (simp [opQ] at hq;done)
  rename_i f
  simp only [opQ] at hq
  cases hf:first.toList with
  | cons _ _=>simp [hf] at hq
  | nil=>
  simp only [hf] at hq
  cases hl:opnds r g caps.toList with
  | none=>simp [hl] at hq
  | some l=>
  simp only [hl] at hq
  have hfe:first=#[]:=by simpa using hf
  refine q_val (u:=.func (.func f) #[] (caps.map a.eval)) hc hn hq ?_ ?_
  ·rw [Rep];exact ⟨_,rfl,by rw [evals_list];exact hc.opnds hg hl⟩
  ·simp [execOp,Instr.makeFunc,hfe]
 case call cl=>
  unfold opQ at hq
  simp only at hq
  split at hq
  ·rename_i hcal
   cases hat:cl.argTypes.toList with
   | nil=>simp [hat] at hq
   | cons t ts=>
   cases ts with
   | cons _ _=>simp [hat] at hq
   | nil=>
   simp only [hat] at hq
   cases hl:opnds r g cl.args.toList with
   | none=>simp [hl] at hq
   | some l=>
   cases l with
   | nil=>simp [hl] at hq
   | cons x l=>
   cases l with
   | cons _ _=>simp [hl] at hq
   | nil=>
   simp only [hl] at hq
   have hrs:=hc.opnds hg hl
   simp only [RepVs] at hrs
   obtain ⟨u,rr,e,h1,rfl⟩:=hrs
   obtain ⟨v,s,k1,k2,k3⟩:=lenP_ok (ty:=ty) hq h1
   have hargs:cl.args.map a.eval=#[u]:=by rw [← Array.toList_inj];simpa using e
   have htys:cl.argTypes=#[t]:=by rw [← Array.toList_inj];simpa using hat
   exact q_val hc hn k1 k2 (by simp [execOp,resolve,hcal,invoke,builtin,hargs,htys,k3])
  ·rename_i hcal
   split at hq<;>try contradiction
   rename_i t hat
   split at hq<;>try contradiction
   rename_i e hud
   split at hq<;>try contradiction
   rename_i b off n' c k hl
   have hrs:=hc.opnds hg hl
   simp only [RepVs] at hrs
   obtain ⟨u,rr,e1,h1,e2⟩:=hrs
   subst e2
   rw [Rep] at h1
   obtain ⟨p,x1,x2,rfl,x3,x4,x5,x6,x7⟩:=h1
   have h1:cl.args.map a.eval=#[.slice (some ⟨p.block,p.off+off,none⟩) n' c]:=by rw [← Array.toList_inj];simpa using e1
   have h2:cl.argTypes=#[t]:=by rw [← Array.toList_inj];simpa using hat
   refine q_val (u:=goInt c) hc hn hq ?_ ?_
   ·rw [Rep]
    refine ⟨rfl,?_⟩
    unfold CAPM at x7
    simp [IntKind.has,IntKind.min,IntKind.max,IntKind.signed,IntKind.bits]
    omega
   ·simp [execOp,resolve,hcal,invoke,builtin,h1,h2,Builtin.cap_,run_und hud]
  ·rename_i hcal
   cases hl:opnds r g cl.args.toList with
   | none=>simp [hl] at hq
   | some l=>
   simp only [hl] at hq
   cases l with
   | nil=>simp at hq
   | cons x l=>
   cases x<;>try (simp at hq;done)
   rename_i k m
   cases k<;>try (simp at hq;done)
   simp only at hq
   cases hf:foldI min m l with
   | none=>simp [hf] at hq
   | some z=>
   simp only [hf] at hq
   have hrs:=hc.opnds hg hl
   simp only [RepVs] at hrs
   obtain ⟨u,rr,e,h1,h2⟩:=hrs
   rw [Rep] at h1
   obtain ⟨rfl,hm⟩:=h1
   obtain ⟨q1,q2⟩:=min_ok (P:=P) hf h2 hm
   have hargs:(cl.args.map a.eval).toList=.int .i64 m::rr:=by simpa using e
   refine q_val (v:=.int .i64 z) (u:=.int .i64 z) hc hn hq (by rw [Rep];exact ⟨rfl,q1⟩) ?_
   simp only [execOp,resolve,hcal,Sem.run_bind,Sem.run_pure,Result.andThen,invoke,builtin,Builtin.min_,hargs,q2]
  ·rename_i hcal
   cases hl:opnds r g cl.args.toList with
   | none=>simp [hl] at hq
   | some l=>
   simp only [hl] at hq
   cases l with
   | nil=>simp at hq
   | cons x l=>
   cases x<;>try (simp at hq;done)
   rename_i k m
   cases k<;>try (simp at hq;done)
   simp only at hq
   cases hf:foldI max m l with
   | none=>simp [hf] at hq
   | some z=>
   simp only [hf] at hq
   have hrs:=hc.opnds hg hl
   simp only [RepVs] at hrs
   obtain ⟨u,rr,e,h1,h2⟩:=hrs
   rw [Rep] at h1
   obtain ⟨rfl,hm⟩:=h1
   obtain ⟨q1,q2⟩:=max_ok (P:=P) hf h2 hm
   have hargs:(cl.args.map a.eval).toList=.int .i64 m::rr:=by simpa using e
   refine q_val (v:=.int .i64 z) (u:=.int .i64 z) hc hn hq (by rw [Rep];exact ⟨rfl,q1⟩) ?_
   simp only [execOp,resolve,hcal,Sem.run_bind,Sem.run_pure,Result.andThen,invoke,builtin,Builtin.max_,hargs,q2]
  ·rename_i f hcal
   cases hl:opnds r g cl.args.toList with
   | none=>simp [hl] at hq
   | some l=>
   simp only [hl] at hq
   obtain ⟨v,hv,hk⟩:=hq
   have hv:=gP_he he hv
   have hrun:(execOp a.eval ⟨dst,.call cl,ty,pos,aft,gd⟩).run P w=(callFunc f (cl.args.map a.eval++#[])).run P w:=
    run_callF rfl ⟨_,hcal,rfl⟩
   refine wp_call (us:=cl.args.map a.eval) hv hc.cw (by simpa using hc.opnds hg hl) (by simpa using hrun) (fun v' h' g' u w' hR c1 c2 c3=>?_)
   obtain ⟨rfl,rfl⟩:=hR
   exact hn _ g' u w' hk c1 c2 c3
  ·rename_i t hcal
   cases hx:opnd r g (.tmp t) with
   | none=>simp [hx] at hq
   | some x=>
   cases x<;>try (simp [hx] at hq;done)
   rename_i f caps
   simp only [hx] at hq
   cases hl:opnds r g cl.args.toList with
   | none=>simp [hl] at hq
   | some l=>
   simp only [hl] at hq
   obtain ⟨v,hv,hk⟩:=hq
   have hv:=gP_he he hv
   have hr:=hc.opnd hg hx
   rw [Rep] at hr
   obtain ⟨us,hfv,hus⟩:=hr
   have hrun:(execOp a.eval ⟨dst,.call cl,ty,pos,aft,gd⟩).run P w=(callFunc f (cl.args.map a.eval++us)).run P w:=
    run_callF rfl ⟨_,hcal,hfv⟩
   refine wp_call hv hc.cw (by simpa using RepVs.append (hc.opnds hg hl) hus) hrun (fun v' h' g' u w' hR c1 c2 c3=>?_)
   obtain ⟨rfl,rfl⟩:=hR
   exact hn _ g' u w' hk c1 c2 c3
  ·exact hq.elim
 case lookup t x i ok=>
  simp only [opQ] at hq
  split at hq<;>try contradiction
  rename_i kt et hty
  split at hq<;>try contradiction
  rename_i k hk
  split at hq<;>try contradiction
  rename_i z hz
  have hrk:=hc.opnd hg hk
  split at hq<;>try contradiction
  ·rename_i b hx
   obtain ⟨es,v,f,hm,hgp,hK⟩:=hq
   obtain ⟨h1,h2⟩:=gP_he he hgp
   have hrx:=hc.opnd hg hx
   rw [Rep] at hrx
   obtain ⟨p,hp,hv⟩:=hrx
   obtain ⟨p',cl,ents,o1,o2,o3,o4,o5⟩:=hc.cw.obj b _ hm
   simp only at o1 o3
   rw [hp] at o1;cases o1
   obtain ⟨s,r1,r2⟩:=run_lookup' (P:=P) (c:=⟨g0,live X h,w⟩) (ok:=ok) hty h1 hrk hz o3 o4 h2
   exact q_val hc hn hK r2 (by simp only [execOp,hv,Sem.run_bind,r1,Result.andThen_ok,Sem.run_pure])
  ·rename_i hx
   obtain ⟨hgp,hK⟩:=hq
   have h1:=gP_he he hgp
   have hrx:=hc.opnd hg hx
   rw [Rep] at hrx
   obtain ⟨s,r1,r2⟩:=run_lookup_nil (P:=P) (c:=⟨g0,live X h,w⟩) (ok:=ok) hty h1 hrk hz
   exact q_val hc hn hK r2 (by simp only [execOp,hrx,Sem.run_bind,r1,Result.andThen_ok,Sem.run_pure])
 all_goals (simp [opQ] at hq)
end Go.Abs
