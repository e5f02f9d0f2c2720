/- What is proved: small laws for the walks of this seat, and contracts of its functions. No condition but those each theorem names. -/
import Derived.Test.YtmkmflcemegikaaGreatN14
import Derived.Test.YtmkmflcemegikaaGreatN11
import Derived.Test.YtmkmflcemegikaaGreatN7
set_option maxRecDepth 100000
set_option maxHeartbeats 2000000
set_option linter.unusedVariables false
set_option linter.unusedSimpArgs false
namespace Go.Abs.Wall
open Go Go.Abs Go.Proofs
abbrev Pth:=Int × List Edg
def extC (x:Edg) (l:List Pth):List Int:=l.map fun p=>x.cost+p.1
def mkR (es:List Edg) (T:Edg→List Pth) (w:Wy):Pth:=match es[w.edge]? with
 | none=>(w.cost,[])
 | some x=>(w.cost,x::((T x).getD w.rank (0,[])).2)
def tabE (T:List (List Pth)) (x:Edg):List Pth:=T.getD (x.word.uses.length - 1) []
def rdT:List (List Edg)→List (List Pth)
 | []=>[[(0,[])]]
 | es::g=>((mgW (es.map fun x=>extC x (tabE (rdT g) x))).map (mkR es (tabE (rdT g))))::rdT g
def rdV (g:List (List Edg)) (i:Nat):List Pth:=(rdT (g.drop i)).headD []
theorem rdT_get:∀ (g:List (List Edg)) (i:Nat),i≤g.length→(rdT g)[i]?=some (rdV g i)
 | [],i,h=>by
   have:i=0:=by simpa using h
   subst this;rfl
 | es::g,0,_=>by simp [rdT,rdV]
 | es::g,i+1,h=>by
   have:=rdT_get g i (by simpa using h)
   simp only [rdT,List.getElem?_cons_succ]
   rw [this]
   rfl
theorem rdV_drop (g:List (List Edg)) (a i:Nat):rdV (g.drop a) i=rdV g (a+i):=by unfold rdV;rw [List.drop_drop]
theorem rdV_end (g:List (List Edg)):rdV g g.length=[(0,[])]:=by unfold rdV;rw [List.drop_length];rfl
theorem tabE_eq {g:List (List Edg)} {i:Nat} {x:Edg} (hx:EdgOK g.length i x):tabE (rdT (g.drop (i+1))) x=rdV g x.to.toNat:=by
 have h1:=hx.lo;have h2:=hx.hi;have h3:=hx.to
 unfold tabE
 have h4:=rdT_get (g.drop (i+1)) (x.word.uses.length - 1) (by rw [List.length_drop];omega)
 rw [rdV_drop,show i+1+(x.word.uses.length - 1)=x.to.toNat by omega] at h4
 rw [List.getD_eq_getElem?_getD,h4]
 rfl
def clsG (g:List (List Edg)) (es:List Edg):List (List Int):=es.map fun x=>extC x (rdV g x.to.toNat)
def wayAt (g:List (List Edg)) (i:Nat):List Wy:=match g[i]? with
 | none=>[⟨0,0,0⟩]
 | some es=>mgW (clsG g es)
theorem mkR_congr {es:List Edg} {T T':Edg→List Pth} (h:∀ x∈es,T x=T' x) (w:Wy):mkR es T w=mkR es T' w:=by
 unfold mkR
 cases hx:es[w.edge]? with
 | none=>rfl
 | some x=>simp only [h x (List.mem_of_getElem? hx)]
theorem rdV_cons {g:List (List Edg)} {i:Nat} {es:List Edg} (h:g[i]?=some es) (hx:∀ x∈es,EdgOK g.length i x) :
  rdV g i=(mgW (clsG g es)).map (mkR es fun x=>rdV g x.to.toNat):=by
 have e1:rdV g i=(mgW (es.map fun x=>extC x (tabE (rdT (g.drop (i+1))) x))).map (mkR es (tabE (rdT (g.drop (i+1))))):=by
  unfold rdV
  rw [drop_cons h];rfl
 have e2:(es.map fun x=>extC x (tabE (rdT (g.drop (i+1))) x))=clsG g es:=by
  unfold clsG
  exact List.map_congr_left fun x hm=>by rw [tabE_eq (hx x hm)]
 rw [e1,e2]
 exact List.map_congr_left fun w _=>mkR_congr (fun x hm=>tabE_eq (hx x hm)) w
theorem mkR_cost {es:List Edg} {T:Edg→List Pth} {w:Wy}:(mkR es T w).1=w.cost:=by
 unfold mkR
 cases es[w.edge]?<;>rfl
theorem wayAt_rd {g:List (List Edg)} (hg:GOK g) {i:Nat} (hi:i≤g.length) (r:Nat):((rdV g i)[r]?).map (·.1)=((wayAt g i)[r]?).map (·.cost):=by
 by_cases h:i<g.length
 ·obtain ⟨es,hes⟩:=get_lt h
  rw [rdV_cons hes (hg.edge i es hes)]
  unfold wayAt
  rw [hes]
  simp only [List.getElem?_map,Option.map_map]
  congr 1
  funext w
  exact mkR_cost
 ·have:i=g.length:=by omega
  subst this
  rw [rdV_end]
  unfold wayAt
  rw [List.getElem?_eq_none (Nat.le_refl _)]
  cases r<;>simp
theorem clsG_get {g:List (List Edg)} (hg:GOK g) {i:Nat} {es:List Edg} (hes:g[i]?=some es) {k:Nat} {x:Edg} (hx:es[k]?=some x) :
  ∃ l:List Int,(clsG g es)[k]?=some l∧∀ r:Nat,l[r]?=((wayAt g x.to.toNat)[r]?).map (fun (w:Wy)=>x.cost+w.cost):=by
 have ho:=hg.edge i es hes x (List.mem_of_getElem? hx)
 refine ⟨extC x (rdV g x.to.toNat),by unfold clsG;rw [List.getElem?_map,hx];rfl,fun r=>?_⟩
 have:=wayAt_rd hg (i:=x.to.toNat) (by have:=ho.hi;omega) r
 unfold extC
 rw [List.getElem?_map]
 have e:∀ o:Option Pth,o.map (fun p=>x.cost+p.1)=(o.map (·.1)).map fun c=>x.cost+c:=fun o=>by cases o<;>rfl
 rw [e,this]
 cases (wayAt g x.to.toNat)[r]?<;>rfl
theorem clsG_len (g:List (List Edg)) (es:List Edg):(clsG g es).length=es.length:=by simp [clsG]
theorem rdV_bound {g:List (List Edg)} (hg:GOK g):∀ (d i:Nat),i+d=g.length→∀ p∈rdV g i,0≤p.1∧p.1≤18000*(d:Int):=by
 intro d
 induction d using Nat.strongRecOn with
 | _ d ih=>
   intro i hi p hp
   by_cases h:i<g.length
   ·obtain ⟨es,hes⟩:=get_lt h
    have hE:=hg.edge i es hes
    rw [rdV_cons hes hE,List.mem_map] at hp
    obtain ⟨w,hw,rfl⟩:=hp
    rw [mkR_cost]
    obtain ⟨t,ht⟩:=List.mem_iff_getElem?.1 hw
    obtain ⟨_,l,h2,h3⟩:=mgW_cand ht
    unfold clsG at h2
    rw [List.getElem?_map] at h2
    cases hx:es[w.edge]? with
    | none=>rw [hx] at h2;cases h2
    | some x=>
      rw [hx] at h2
      cases h2
      have ho:=hE x (List.mem_of_getElem? hx)
      unfold extC at h3
      rw [List.getElem?_map] at h3
      cases hq:(rdV g x.to.toNat)[w.rank]? with
      | none=>rw [hq] at h3;cases h3
      | some q=>
        rw [hq] at h3
        have h3:x.cost+q.1=w.cost:=by simpa using h3
        have h5:=ho.lo;have h6:=ho.hi;have h7:=ho.cost
        have:=ih (g.length - x.to.toNat) (by omega) x.to.toNat (by omega) q (List.mem_of_getElem? hq)
        omega
   ·have:i=g.length:=by omega
    subst this
    rw [rdV_end] at hp
    simp at hp
    subst hp
    simp
    omega
theorem wayAt_bound {g:List (List Edg)} (hg:GOK g) {i:Nat} (hi:i≤g.length):∀ w∈wayAt g i,0≤w.cost∧w.cost≤1080000:=by
 intro w hw
 obtain ⟨t,ht⟩:=List.mem_iff_getElem?.1 hw
 have:=wayAt_rd hg hi t
 rw [ht] at this
 cases hq:(rdV g i)[t]? with
 | none=>rw [hq] at this;cases this
 | some p=>
   rw [hq] at this
   have hc:p.1=w.cost:=by simpa using this
   have h1:=rdV_bound hg (g.length - i) i (by omega) p (List.mem_of_getElem? hq)
   have:=hg.few
   omega
theorem foldE_spec (t:List Int) (v:Edg→Int):∀ (es:List Edg) (r:Int),(∀ x∈es,t.getD (x.word.uses.length - 1) 0=v x)→(∀ x∈es,-1≤v x∧0≤x.cost)→-1≤r →
  (es.foldl (edgeR t) r=r∨∃ x∈es,v x≠-1∧es.foldl (edgeR t) r=x.cost+v x)∧(r≠-1→es.foldl (edgeR t) r≠-1∧es.foldl (edgeR t) r≤r)∧(∀ x∈es,v x≠-1→es.foldl (edgeR t) r≠-1∧es.foldl (edgeR t) r≤x.cost+v x)
 | [],r,_,_,_=>⟨.inl rfl,fun h=>⟨h,Int.le_refl _⟩,fun x hx=>by cases hx⟩
 | x::es,r,hv,hc,hr=>by
   rw [List.foldl_cons]
   have hq:edgeR t r x=edgeStep (v x) r x.cost:=by unfold edgeR;rw [hv x (by simp)]
   have hcx:=hc x (by simp)
   obtain ⟨r',hr'⟩:∃ r',r'=edgeR t r x:=⟨_,rfl⟩
   rw [← hr']
   have hst:(r'=r∨v x≠-1∧r'=x.cost+v x)∧(r≠-1→r'≠-1∧r'≤r)∧(v x≠-1→r'≠-1∧r'≤x.cost+v x):=by
    rw [hr',hq]
    unfold edgeStep
    split
    ·rename_i h
     simp at h
     refine ⟨.inr ⟨h.1,rfl⟩,fun h2=>?_,fun h2=>?_⟩<;>omega
    ·rename_i h
     simp at h
     refine ⟨.inl rfl,fun h2=>⟨h2,Int.le_refl _⟩,fun h2=>?_⟩
     have:=h h2
     omega
   obtain ⟨s1,s2,s3⟩:=hst
   obtain ⟨h1,h2,h3⟩:=foldE_spec t v es r' (fun y hy=>hv y (by simp [hy])) (fun y hy=>hc y (by simp [hy])) (by rcases s1 with e|⟨e1,e2⟩<;>omega)
   obtain ⟨z,hz⟩:∃ z,z=es.foldl (edgeR t) r':=⟨_,rfl⟩
   rw [← hz] at h1 h2 h3 ⊢
   refine ⟨?_,fun hn=>?_,fun y hy hvy=>?_⟩
   ·rcases h1 with e|⟨y,hy,e⟩
    ·rcases s1 with e2|⟨e2,e3⟩
     ·exact .inl (e.trans e2)
     ·exact .inr ⟨x,by simp,e2,e.trans e3⟩
    ·exact .inr ⟨y,by simp [hy],e⟩
   ·obtain ⟨a,b⟩:=s2 hn
    obtain ⟨c,d⟩:=h2 a
    exact ⟨c,by omega⟩
   ·rcases List.mem_cons.1 hy with rfl|hy
    ·obtain ⟨a,b⟩:=s3 hvy
     obtain ⟨c,d⟩:=h2 a
     exact ⟨c,by omega⟩
    ·exact h3 y hy hvy
theorem restV_consM {g:List (List Edg)} {i:Nat} {es:List Edg} (h:g[i]?=some es):restV g i=es.foldl (edgeR (restT (g.drop (i+1)))) (-1):=by
 unfold restV
 rw [drop_cons h];rfl
theorem rest_first {g:List (List Edg)} (hg:GOK g):∀ (d i:Nat),i+d=g.length→restV g i=match (wayAt g i)[0]? with
  | none=>-1
  | some w=>w.cost:=by
 intro d
 induction d using Nat.strongRecOn with
 | _ d ih=>
   intro i hi
   by_cases h:i<g.length
   ·obtain ⟨es,hes⟩:=get_lt h
    have hE:=hg.edge i es hes
    have hto:∀ x∈es,(restT (g.drop (i+1))).getD (x.word.uses.length - 1) 0=restV g x.to.toNat:=by
     intro x hx
     have ho:=hE x hx
     have h1:=ho.lo;have h2:=ho.hi;have h3:=ho.to
     have h4:=restT_get (g.drop (i+1)) (x.word.uses.length - 1) (by rw [List.length_drop];omega)
     rw [restV_drop,show i+1+(x.word.uses.length - 1)=x.to.toNat by omega] at h4
     rw [List.getD_eq_getElem?_getD,h4]
     rfl
    have hrec:∀ x∈es,restV g x.to.toNat=match (wayAt g x.to.toNat)[0]? with
      | none=>-1
      | some w=>w.cost:=by
     intro x hx
     have ho:=hE x hx
     have h1:=ho.lo;have h2:=ho.hi
     exact ih (g.length - x.to.toNat) (by omega) _ (by omega)
    have hpos:∀ x∈es,∀ w,(wayAt g x.to.toNat)[0]?=some w→0≤w.cost:=by
     intro x hx w hw
     exact (wayAt_bound hg (by have:=(hE x hx).hi;omega) w (List.mem_of_getElem? hw)).1
    have hvb:∀ x∈es,-1≤restV g x.to.toNat∧0≤x.cost:=by
     intro x hx
     refine ⟨?_,(hE x hx).cost.1⟩
     rw [hrec x hx]
     cases hw:(wayAt g x.to.toNat)[0]? with
     | none=>simp
     | some w=>have:=hpos x hx w hw;simp only;omega
    obtain ⟨f1,f2,f3⟩:=foldE_spec (restT (g.drop (i+1))) (fun x=>restV g x.to.toNat) es (-1) hto hvb (by omega)
    rw [restV_consM hes]
    obtain ⟨z,hz⟩:∃ z,z=es.foldl (edgeR (restT (g.drop (i+1)))) (-1):=⟨_,rfl⟩
    rw [← hz] at f1 f3 ⊢
    have hwa:wayAt g i=mgW (clsG g es):=by unfold wayAt;rw [hes]
    rw [hwa,mgW_get]
    have hcand:∀ y,Cand (clsG g es) (stS (clsG g es) 0) y↔∃ x w,es[y.edge]?=some x∧(wayAt g x.to.toNat)[0]?=some w∧y.cost=x.cost+w.cost∧y.rank=0:=by
     intro y
     constructor
     ·rintro ⟨q1,l,q2,q3⟩
      have q1:y.rank=0:=q1
      rw [q1] at q3
      have hlt:=(List.getElem?_eq_some_iff.1 q2).1
      rw [clsG_len] at hlt
      obtain ⟨x,hx⟩:=get_lt hlt
      obtain ⟨l',e1,e2⟩:=clsG_get hg hes hx
      rw [q2] at e1;cases e1
      rw [e2] at q3
      cases hw:(wayAt g x.to.toNat)[0]? with
      | none=>rw [hw] at q3;cases q3
      | some w=>rw [hw] at q3;exact ⟨x,w,hx,hw,by simpa using q3.symm,q1⟩
     ·rintro ⟨x,w,hx,hw,hc,h0⟩
      obtain ⟨l',e1,e2⟩:=clsG_get hg hes hx
      exact ⟨h0,l',e1,by rw [h0,e2,hw,hc];rfl⟩
    cases hb:best (clsG g es) (stS (clsG g es) 0) with
    | none=>
      rcases f1 with e|⟨x,hx,hv,e⟩
      ·exact e
      ·obtain ⟨k,hk⟩:=List.mem_iff_getElem?.1 hx
       rw [hrec x hx] at hv
       cases hw:(wayAt g x.to.toNat)[0]? with
       | none=>rw [hw] at hv;exact absurd rfl hv
       | some w=>exact absurd ((hcand ⟨x.cost+w.cost,k,0⟩).2 ⟨x,w,hk,hw,rfl,rfl⟩) (best_none hb _)
    | some y=>
      obtain ⟨b1,b2⟩:=best_some hb
      obtain ⟨x,w,hx,hw,hc,h0⟩:=(hcand y).1 b1
      have hxm:=List.mem_of_getElem? hx
      have hrx:restV g x.to.toNat=w.cost:=by rw [hrec x hxm,hw]
      have hw0:=hpos x hxm w hw
      obtain ⟨g1,g2⟩:=f3 x hxm (by omega)
      simp only at g2 ⊢
      rcases f1 with e|⟨x',hx',hv',e⟩
      ·exact absurd e g1
      ·obtain ⟨k,hk⟩:=List.mem_iff_getElem?.1 hx'
       rw [hrec x' hx'] at hv' e
       cases hw':(wayAt g x'.to.toNat)[0]? with
       | none=>rw [hw'] at hv';exact absurd rfl hv'
       | some w'=>
         rw [hw'] at e
         have hm:=b2 ⟨x'.cost+w'.cost,k,0⟩ ((hcand _).2 ⟨x',w',hk,hw',rfl,rfl⟩)
         rcases hm with e2|hl
         ·have:x'.cost+w'.cost=y.cost:=by rw [← e2]
          simp only at e
          omega
         ·unfold wlt at hl
          simp only at hl e
          omega
   ·have:i=g.length:=by omega
    subst this
    rw [restV_end]
    unfold wayAt
    rw [List.getElem?_eq_none (Nat.le_refl _)]
    rfl
end Go.Abs.Wall
namespace Go.Abs.Wall.Lst
open Go Go.Abs Go.Proofs Go.Abs.Wall
structure NodeS (cls:List (List Int)) (t:Nat) (due:Bool) (Q:List Wy):Prop where
 ok:NodeOK cls t due Q
 few:Q.length+(if due=true then 1 else 0)≤2000
 asked:t≤65
def NodeH (cls:List (List Int)) (nk:Nat) (hp:Heap):Prop:=∃ t due Q fv fh ov oh,NodeS cls t due Q∧Out 3 encWy ((mgW cls).take t) fv fh∧OpenR Q ov oh∧hp=(nk,.vec (ndC fv ov due))::(fh++oh)
def clsAt (g:List (List Edg)) (i:Nat):List (List Int):=clsG g (g.getD i [])
inductive Nodes (g:List (List Edg)):Nat→List Nat→Heap→Prop
 | nil (i:Nat):Nodes g i [] []
 | cons {i k:Nat} {ks:List Nat} {h1 h2:Heap}:NodeH (clsAt g i) k h1→Nodes g (i+1) ks h2→Nodes g i (k::ks) (h1++h2)
theorem Nodes.split {g:List (List Edg)}:∀ {i:Nat} {ks:List Nat} {hp:Heap} (n:Nat),Nodes g i ks hp→n≤ks.length→∃ hA hB,hp=hA++hB∧Nodes g i (ks.take n) hA∧Nodes g (i+n) (ks.drop n) hB
 | i,ks,hp,0,h,_=>⟨[],hp,rfl,by simpa using .nil i,by simpa using h⟩
 | i,_,_,n+1,.nil _,hn=>by simp at hn
 | i,_,_,n+1,.cons (k:=k) (ks:=ks) (h1:=h1) (h2:=h2) h1' h2',hn=>by
   obtain ⟨hA,hB,rfl,e1,e2⟩:=Nodes.split n h2' (by simpa using hn)
   refine ⟨h1++hA,hB,by rw [List.append_assoc],.cons h1' e1,?_⟩
   rw [show i+(n+1)=i+1+n by omega]
   exact e2
theorem Nodes.join {g:List (List Edg)}:∀ {i:Nat} {ks ks2:List Nat} {hA hB:Heap},Nodes g i ks hA→Nodes g (i+ks.length) ks2 hB→Nodes g i (ks++ks2) (hA++hB)
 | i,_,ks2,_,hB,.nil _,h2=>by simpa using h2
 | i,_,ks2,_,hB,.cons (k:=k) (ks:=ks) (h1:=h1) (h2:=h2) h1' h2',h3=>by
   rw [List.append_assoc]
   refine .cons h1' (Nodes.join h2' ?_)
   rw [show i+1+ks.length=i+(k::ks).length by simp;omega]
   exact h3
def wy0:Wy:=⟨0,0,0⟩
def getV (g:List (List Edg)) (i rank:Nat):AV:=match (wayAt g i)[rank]? with
 | some w=>.tup [.agg (encWy w),.bool true]
 | none=>.tup [.agg (encWy wy0),.bool false]
def encKey (k:Nat):List AV:=[.optr k 0]
def tOb (g:List (List Edg)) (R:List Int) (nv:AV):Ob:=.vec [.iptr (encForest g R),nv]
def GetC (g:List (List Edg)) (at_:Nat):Prop:=
 ∀ (tb:Nat) (R:List Int) (pre ks:List Nat) (nq:Option Nat) (nv:AV) (rank:Nat) (hp:Heap),pre.length=at_→(pre++ks).length=g.length→(g=[]∨nv=.sl 1 nq ((pre++ks).map encKey))→Nodes g at_ ks hp→rank≤64 →
  ACalls Tryz.prog 67 [.optr tb 0,.int .i64 at_,.int .i64 rank] ((tb,tOb g R nv)::hp) (fun v h'=>v=getV g at_ rank∧∃ hp',Nodes g at_ ks hp'∧h'=(tb,tOb g R nv)::hp')
theorem mgW_over {cls:List (List Int)} {t r:Nat} (h:(mgW cls)[t]?=none) (hr:t≤r):(mgW cls)[r]?=none:=by
 rw [List.getElem?_eq_none_iff] at h ⊢
 omega
theorem take_one {cls:List (List Int)} {t:Nat} {x:Wy} (h:(mgW cls)[t]?=some x):(mgW cls).take (t+1)=(mgW cls).take t++[x]:=take_snoc h
theorem Out.len {α:Type} {k:Nat} {enc:α→List AV} {o:List α} {v:AV} {hp:Heap} (h:Out k enc o v hp):lenOf? v=some o.length:=by
 rcases h with ⟨rfl,rfl,rfl⟩|⟨q,rfl,rfl⟩
 ·rfl
 ·simp [lenOf?]
theorem permR {a b c:Nat × Ob} {fh oh h2:Heap}:(a::b::c::(fh++(oh++h2))).Perm (a::b::((c::(fh++oh))++h2)):=by
 rw [List.cons_append,List.append_assoc]
theorem perm3 {A B C D:Heap}:(D++(A++(B++C))).Perm (A++(B++(C++D))):=by
 have h:A++(B++(C++D))=(A++(B++C))++D:=by simp [List.append_assoc]
 rw [h]
 exact List.perm_append_comm
theorem permM {A B C D:Heap}:(D++(A++(B++C))).Perm (A++(B++(D++C))):=by
 have h:A++(B++(D++C))=(A++B)++(D++C):=by simp [List.append_assoc]
 have h2:D++(A++(B++C))=D++((A++B)++C):=by simp [List.append_assoc]
 rw [h,h2]
 exact List.perm_append_comm_assoc _ _ _
theorem recCall {g:List (List Edg)} {at_ j:Nat} (IH:GetC g j) (hj:at_<j) (hj2:j≤g.length) {tb:Nat} {R:List Int} {pre ks:List Nat} {k:Nat} {nq:Option Nat} (hpl:pre.length=at_) (hkl:(pre++k::ks).length=g.length) {rank:Nat} (hr:rank≤64) {h2:Heap} (hn:Nodes g (at_+1) ks h2) (A B:Heap) :
  ACalls Tryz.prog 67 [.optr tb 0,.int .i64 j,.int .i64 rank] (A++(tb,tOb g R (.sl 1 nq ((pre++k::ks).map encKey)))::(B++h2))
   (fun v H'=>v=getV g j rank∧∃ h2',Nodes g (at_+1) ks h2'∧H'=A++(tb,tOb g R (.sl 1 nq ((pre++k::ks).map encKey)))::(B++h2')):=by
 rw [List.length_append,List.length_cons] at hkl
 obtain ⟨m,rfl⟩:∃ m,j=at_+1+m:=⟨j - (at_+1),by omega⟩
 obtain ⟨hA,hB,rfl,nA,nB⟩:=hn.split m (by omega)
 have he:(pre++k::ks.take m)++ks.drop m=pre++k::ks:=by rw [List.append_assoc,List.cons_append,List.take_append_drop]
 have htl:(ks.take m).length=m:=by rw [List.length_take];omega
 have h1:=IH tb R (pre++k::ks.take m) (ks.drop m) nq (.sl 1 nq ((pre++k::ks).map encKey)) rank hB (by rw [List.length_append,List.length_cons,htl];omega) (by rw [he,List.length_append,List.length_cons];omega) (.inr (by rw [he])) nB hr
 refine ACalls.re h1 (h2:=A++(B++hA)) ?_ ?_
 ·have p1:((tb,tOb g R (.sl 1 nq ((pre++k::ks).map encKey)))::hB++(A++(B++hA))).Perm ((tb,tOb g R (.sl 1 nq ((pre++k::ks).map encKey)))::(A++(B++(hA++hB)))):=by
   exact List.Perm.cons _ perm3
  exact p1.trans List.perm_middle.symm
 ·rintro v h3 ⟨rfl,hp',hn',rfl⟩
  refine ⟨_,?_,rfl,hA++hp',?_,rfl⟩
  ·have p1:((tb,tOb g R (.sl 1 nq ((pre++k::ks).map encKey)))::hp'++(A++(B++hA))).Perm ((tb,tOb g R (.sl 1 nq ((pre++k::ks).map encKey)))::(A++(B++(hA++hp')))):=by
    exact List.Perm.cons _ perm3
   exact p1.trans List.perm_middle.symm
  ·have:=Nodes.join nA (by rw [htl];exact hn')
   rwa [List.take_append_drop] at this
theorem putCall {x:Wy} {Q:List Wy} (hs:Q.Pairwise wlt) {nk:Nat} {fv:AV} {due:Bool} {ov:AV} {oh:Heap} (ho:OpenR Q ov oh) (hl:Q.length≤65536) (A B C:Heap) :
  ACalls Tryz.prog 66 [.optr nk 1,.agg (encWy x)] (A++(nk,.vec (ndC fv ov due))::(B++(oh++C)))
   (fun v H'=>v=.tup []∧∃ ov' oh',OpenR (insW x Q) ov' oh'∧H'=A++(nk,.vec (ndC fv ov' due))::(B++(oh'++C))):=by
 have key:∀ (o:Nat × Ob) (oh:Heap),(o::oh++(A++(B++C))).Perm (A++o::(B++(oh++C))):=by
  intro o oh
  refine List.Perm.trans ?_ List.perm_middle.symm
  exact List.Perm.cons _ permM
 refine ACalls.re (putW x Q hs nk fv due ov oh ho hl) (key _ _) ?_
 rintro v h3 ⟨rfl,ov',oh',ho',rfl⟩
 exact ⟨_,key _ _,rfl,ov',oh',ho',rfl⟩
def c67:Cfg:=⟨[0,1,2,6,7,8,9,10,11,12,22,39,43,83,105],[],[9,10,11],[],[(7,[0,1,2,3,4,5,6,7,8,9,10,11,12,13],[9]),(8,[0,1,2,3,4,5,6,7,8,9,10,11,12,13,14,15],[10]),(11,[0,1,2,3,4,5,6,7,8,9,10,11,12,13,14],[]),(14,[0,1,2,3,4,5,6,7,8,9,10,11,12,13,14,15,16],[])],[98]⟩
set_option maxHeartbeats 2000000 in
theorem getStep (g:List (List Edg)) (hg:GOK g) (at_:Nat) (hat:at_≤g.length) (IH:∀ j,at_<j→j≤g.length→GetC g j):GetC g at_:=by
 intro tb R pre ks nq nv rank hp hpl hkl hnv hN hr
 have hgf:=hg.few
 refine ACalls.post (R:=fun v h'=>v=getV g at_ rank∧∃ hp',Nodes g at_ ks hp'∧∃ rb o,h'.Perm ((rb,o)::(tb,tOb g R nv)::hp')) ?_ ?_
 ·by_cases he:at_=g.length
  ·have hwa:wayAt g at_=[wy0]:=by unfold wayAt;rw [he,List.getElem?_eq_none (Nat.le_refl _)];rfl
   refine fcalls (F:=Tryz.f67) c67 rfl rfl rfl mixed rfl fun X=>?_
   conv=>whnf
   repeat ((first|refine ⟨_,_,.tail _ (.head _),rfl,?_⟩|intro (nb:Nat));conv=>whnf)
   refine cT (by simp;omega) ?_
   conv=>whnf
   repeat ((first|refine ⟨_,_,.head _,rfl,?_⟩|refine ⟨_,_,.here _,leOK,?_⟩);conv=>whnf)
   refine ⟨?_,hp,hN,nb,_,.refl _⟩
   unfold getV
   rw [hwa]
   cases rank with
   | zero=>rfl
   | succ r=>rfl
  ·have hat2:at_<g.length:=by omega
   obtain ⟨es,hes⟩:=get_lt hat2
   have hE:=hg.edge at_ es hes
   have hwa:wayAt g at_=mgW (clsG g es):=by unfold wayAt;rw [hes]
   have hca:clsAt g at_=clsG g es:=by unfold clsAt;rw [List.getD_eq_getElem?_getD,hes];rfl
   cases hN with
   | nil=>rw [List.append_nil] at hkl;omega
   | cons hn1 hn2=>
   rename_i k ks h1 h2
   have hnv2:nv=.sl 1 nq ((pre++k::ks).map encKey):=by
    rcases hnv with h|h
    ·rw [h] at hat2;simp at hat2
    ·exact h
   subst hnv2
   have hkat:(pre++k::ks)[at_]?=some k:=by rw [← hpl];simp
   unfold NodeH at hn1
   rw [hca] at hn1
   obtain ⟨t0,due0,Q0,fv0,fh0,ov0,oh0,hok0,hfo0,hoo0,rfl⟩:=hn1
   refine fcalls (F:=Tryz.f67) c67 rfl rfl rfl mixed rfl fun X=>?_
   conv=>whnf
   repeat ((first|refine ⟨_,_,.tail _ (.head _),rfl,?_⟩|intro (nb:Nat));conv=>whnf)
   refine cF (by simp;omega) ?_
   conv=>whnf
   repeat ((first|refine ix (by assumption) ?_|refine ⟨_,_,.tail _ (.head _),rfl,?_⟩);conv=>whnf)
   refine tloop rfl mixed [0,1,2,6,8] [] (fun m r h=>∃ (t:Nat) (due:Bool) (Q:List Wy) (fv:AV) (fh:Heap) (ov:AV) (oh h2:Heap) (rb:Nat),r=[(0,[],.optr tb 0),(1,[],.int .i64 at_),(2,[],.int .i64 rank),(6,[],.optr rb 0),(8,[],.optr k 0)]∧h=(rb,.vec (encWy wy0))::(tb,tOb g R (.sl 1 nq ((pre++k::ks).map encKey)))::(k,.vec (ndC fv ov due))::(fh++(oh++h2))∧m=66 - t∧NodeS (clsG g es) t due Q∧Out 3 encWy ((mgW (clsG g es)).take t) fv fh∧OpenR Q ov oh∧Nodes g (at_+1) ks h2) ?_ ?_
   ·conv=>whnf
    refine ⟨_,_,Turn.refl _ _,_,t0,due0,Q0,fv0,fh0,ov0,oh0,h2,nb,rfl,?_,rfl,hok0,hfo0,hoo0,hn2⟩
    rw [List.cons_append,List.append_assoc];rfl
   ·clear hok0 hfo0 hoo0 hn2
    rintro m r h' ⟨t,due,Q,fv,fh,ov,oh,h2,rb,rfl,rfl,rfl,hok,hfo,hoo,hn2⟩
    have htl:=hok.ok.le
    have hfo':=hfo
    have hlen:((mgW (clsG g es)).take t).length=t:=by rw [List.length_take];omega
    have hml:(((mgW (clsG g es)).take t).map encWy).length=t:=by rw [List.length_map];exact hlen
    have htk65:=hok.asked
    rcases hfo with ⟨hF,rfl,rfl⟩|⟨q,rfl,rfl⟩
    ·have ht0:t=0:=by rw [hF] at hlen;exact hlen.symm
     have hdue:due=false:=by
      cases due with
      | false=>rfl
      | true=>have:=hok.ok.pos rfl;omega
     subst hdue
     have htr:t≤rank:=by omega
     conv=>whnf
     repeat ((refine ⟨_,_,.tail _ (.tail _ (.head _)),rfl,?_⟩);conv=>whnf)
     refine cT (by simp) ?_
     conv=>whnf
     repeat ((refine ⟨_,_,.tail _ (.tail _ (.head _)),rfl,?_⟩);conv=>whnf)
     refine cF rfl ?_
     cases hQ:Q with
     | nil=>
       subst hQ
       have hgv:getV g at_ rank=.tup [.agg (encWy wy0),.bool false]:=by unfold getV;rw [hwa,mgW_over hok.ok.empty htr]
       have hoo':=hoo
       rcases hoo with ⟨_,rfl,rfl⟩|⟨ob,pr,rfl,rfl⟩
       all_goals
        conv=>whnf
        repeat ((refine ⟨_,_,.tail _ (.tail _ (.head _)),rfl,?_⟩);conv=>whnf)
        refine cT rfl ?_
        conv=>whnf
        repeat ((first|(refine ⟨_,_,.here _,leOK,?_⟩)|refine ⟨_,_,.head _,rfl,?_⟩);conv=>whnf)
        refine ⟨hgv.symm,_,.cons ⟨t,false,[],_,_,_,_,by rw [hca];exact hok,by rw [hca];exact hfo',hoo',rfl⟩ hn2,rb,_,by first|exact permR|exact .refl _|(refine List.Perm.of_eq ?_;simp)⟩
     | cons x Q'=>
       rcases hoo with ⟨h0,rfl,rfl⟩|⟨ob,pr,rfl,rfl⟩
       ·rw [hQ] at h0;cases h0
       subst hQ
       obtain ⟨hx,hok2⟩:=hok.ok.pop
       have htk:=take_one hx
       have hfew:=hok.few
       have hlc:(x::Q').length=Q'.length+1:=rfl
       have htb:((mgW (clsG g es)).take t).length≤65:=by omega
       conv=>whnf
       repeat ((refine ⟨_,_,.tail _ (.tail _ (.head _)),rfl,?_⟩);conv=>whnf)
       refine cF (decide_eq_false (by omega)) ?_
       conv=>whnf
       repeat ((first|(refine ⟨_,_,.tail _ (.tail _ (.head _)),rfl,?_⟩)|(refine ⟨0,gP_of ⟨rfl,by omega⟩,?_⟩)|(refine ldP (i:=0) encWy_len (.tail _ (.tail _ (.tail _ (.head _)))) rfl rfl ?_)|refine And.intro (by show drawOK (opsAt Tryz.f67 _) _=true;decide +kernel) ?_);conv=>whnf)
       first|refine ⟨Nat.le_of_ble_eq_true rfl,fun q'=>?_⟩|refine ⟨(by simp;unfold AMAX;omega),fun q'=>⟨_,.there (.there (.there (.here _))),?_⟩⟩
       conv=>whnf
       repeat ((first|refine ⟨gP_of ⟨by omega,by omega⟩,?_⟩|(refine ⟨_,_,.there (.there (.there (.here _))),leOK,?_⟩)|(refine ⟨_,_,.tail _ (.tail _ (.tail _ (.head _))),rfl,?_⟩));conv=>whnf)
       have e1:pr.length+Int.toNat 1*3=(pr++encWy x).length:=by rw [List.length_append];rfl
       have e2:(((x::Q').length:Nat):Int).toNat - Int.toNat 1=Q'.length:=by rw [Int.toNat_natCast];rfl
       have e3:pr++((x::Q').map encWy).flatten=(pr++encWy x)++(Q'.map encWy).flatten:=by simp
       have hfew2:Q'.length+(if true=true then 1 else 0)≤2000:=by simp at hfew ⊢;omega
       rw [e1,e2,e3]
       first
        | exact ⟨_,_,Turn.refl _ _,_,(by omega),t+1,true,Q',_,[(q',.tok)],_,[(ob,_)],h2,rb,rfl,rfl,rfl,⟨hok2,hfew2,by omega⟩,.inr ⟨q',by rw [htk,List.map_append];rfl,rfl⟩,.inr ⟨ob,pr++encWy x,rfl,rfl⟩,hn2⟩
        | exact ⟨_,_,Turn.perm (List.perm_middle (l₁:=[_,_,_])).symm,_,(by omega),t+1,true,Q',_,[(q',.tok)],_,[(ob,_)],h2,rb,rfl,rfl,rfl,⟨hok2,hfew2,by omega⟩,.inr ⟨q',by rw [htk,hF];rfl,rfl⟩,.inr ⟨ob,pr++encWy x,rfl,rfl⟩,hn2⟩
    ·conv=>whnf
     repeat ((refine ⟨_,_,.tail _ (.tail _ (.head _)),rfl,?_⟩);conv=>whnf)
     refine ⟨fun hz=>?_,fun hz=>?_⟩<;>simp at hz
     ·have htr:t≤rank:=by omega
      cases due with
      | false=>
        conv=>whnf
        repeat ((refine ⟨_,_,.tail _ (.tail _ (.head _)),rfl,?_⟩);conv=>whnf)
        refine cF rfl ?_
        cases hQ:Q with
        | nil=>
          subst hQ
          have hgv:getV g at_ rank=.tup [.agg (encWy wy0),.bool false]:=by unfold getV;rw [hwa,mgW_over hok.ok.empty htr]
          have hoo':=hoo
          rcases hoo with ⟨_,rfl,rfl⟩|⟨ob,pr,rfl,rfl⟩
          all_goals
           conv=>whnf
           repeat ((refine ⟨_,_,.tail _ (.tail _ (.head _)),rfl,?_⟩);conv=>whnf)
           refine cT rfl ?_
           conv=>whnf
           repeat ((first|(refine ⟨_,_,.here _,leOK,?_⟩)|refine ⟨_,_,.head _,rfl,?_⟩);conv=>whnf)
           refine ⟨hgv.symm,_,.cons ⟨t,false,[],_,_,_,_,by rw [hca];exact hok,by rw [hca];exact hfo',hoo',rfl⟩ hn2,rb,_,by first|exact permR|exact .refl _|(refine List.Perm.of_eq ?_;simp)⟩
        | cons x Q'=>
          rcases hoo with ⟨h0,rfl,rfl⟩|⟨ob,pr,rfl,rfl⟩
          ·rw [hQ] at h0;cases h0
          subst hQ
          obtain ⟨hx,hok2⟩:=hok.ok.pop
          have htk:=take_one hx
          have hfew:=hok.few
          have hlc:(x::Q').length=Q'.length+1:=rfl
          have htb:((mgW (clsG g es)).take t).length≤65:=by omega
          conv=>whnf
          repeat ((refine ⟨_,_,.tail _ (.tail _ (.head _)),rfl,?_⟩);conv=>whnf)
          refine cF (decide_eq_false (by omega)) ?_
          conv=>whnf
          repeat ((first|(refine ⟨_,_,.tail _ (.tail _ (.head _)),rfl,?_⟩)|(refine ⟨0,gP_of ⟨rfl,by omega⟩,?_⟩)|(refine ldP (i:=0) encWy_len (.tail _ (.tail _ (.tail _ (.tail _ (.head _))))) rfl rfl ?_)|refine And.intro (by show drawOK (opsAt Tryz.f67 _) _=true;decide +kernel) ?_);conv=>whnf)
          first|refine ⟨Nat.le_of_ble_eq_true rfl,fun q'=>?_⟩|refine ⟨(by simp;unfold AMAX;omega),fun q'=>⟨_,.there (.there (.there (.here _))),?_⟩⟩
          conv=>whnf
          repeat ((first|refine ⟨gP_of ⟨by omega,by omega⟩,?_⟩|(refine ⟨_,_,.there (.there (.here _)),leOK,?_⟩)|(refine ⟨_,_,.tail _ (.tail _ (.head _)),rfl,?_⟩));conv=>whnf)
          have e1:pr.length+Int.toNat 1*3=(pr++encWy x).length:=by rw [List.length_append];rfl
          have e2:(((x::Q').length:Nat):Int).toNat - Int.toNat 1=Q'.length:=by rw [Int.toNat_natCast];rfl
          have e3:pr++((x::Q').map encWy).flatten=(pr++encWy x)++(Q'.map encWy).flatten:=by simp
          have hfew2:Q'.length+(if true=true then 1 else 0)≤2000:=by simp at hfew ⊢;omega
          rw [e1,e2,e3]
          first
           | exact ⟨_,_,Turn.refl _ _,_,(by omega),t+1,true,Q',_,[(q',.tok)],_,[(ob,_)],h2,rb,rfl,rfl,rfl,⟨hok2,hfew2,by omega⟩,.inr ⟨q',by rw [htk,List.map_append];rfl,rfl⟩,.inr ⟨ob,pr++encWy x,rfl,rfl⟩,hn2⟩
           | exact ⟨_,_,Turn.perm (List.perm_middle (l₁:=[_,_,_])).symm,_,(by omega),t+1,true,Q',_,[(q',.tok)],_,[(ob,_)],h2,rb,rfl,rfl,rfl,⟨hok2,hfew2,by omega⟩,.inr ⟨q',by rw [htk,hF];rfl,rfl⟩,.inr ⟨ob,pr++encWy x,rfl,rfl⟩,hn2⟩
      | true=>
        obtain ⟨y,hy⟩:=hok.ok.last
        have ht1:=hok.ok.pos rfl
        have hyr:=mgW_rank hy
        have hyt:((mgW (clsG g es)).take t)[t - 1]?=some y:=by rw [List.getElem?_take_of_lt (by omega)];exact hy
        obtain ⟨_,cl,hcl,hcc⟩:=mgW_cand hy
        obtain ⟨xe,hxe⟩:=get_lt (l:=es) (i:=y.edge) (by have:=(List.getElem?_eq_some_iff.1 hcl).1;rw [clsG_len] at this;exact this)
        have hxo:=hE xe (List.mem_of_getElem? hxe)
        conv=>whnf
        repeat ((refine ⟨_,_,.tail _ (.tail _ (.head _)),rfl,?_⟩);conv=>whnf)
        refine cT rfl ?_
        conv=>whnf
        repeat ((first|refine ⟨gP_of ⟨by omega,by omega⟩,?_⟩|refine ix (by assumption) ?_|(refine ⟨_,_,.there (.there (.here _)),leOK,?_⟩)|(refine ⟨_,_,.tail _ (.tail _ (.head _)),rfl,?_⟩)|(refine ixn (t - 1) (by omega) hyt ?_)|refine ⟨_,_,Rem.here _,?_⟩|refine ⟨_,_,.tail _ (.head _),rfl,?_⟩|refine ⟨_,_,.here _,leOK,?_⟩|refine And.intro (by show drawOK (opsAt Tryz.f67 _) _=true;decide +kernel) ?_|intro (nb:Nat));conv=>whnf)
        have hxlo:=hxo.lo
        have hxhi:=hxo.hi
        have hxc:=hxo.cost
        have hto:((xe.to.toNat:Nat):Int)=xe.to:=Int.toNat_of_nonneg (by omega)
        have hrc:=recCall (IH xe.to.toNat (by omega) (by omega)) (by omega) (by omega) (tb:=tb) (R:=R) (nq:=nq) hpl hkl (rank:=y.rank+1) (by omega) hn2 [(rb,.vec (encWy wy0))] ((k,.vec (ndC (.sl 3 (some q) (((mgW (clsG g es)).take t).map encWy)) ov false))::(q,.tok)::oh)
        rw [hto] at hrc
        obtain ⟨l,hl1,hl2⟩:=clsG_get hg hes hxe
        have hl3:=hl2 (y.rank+1)
        have hfew:=hok.few
        have hfew3:Q.length+1≤2000:=by simpa using hfew
        refine ACalls.mono ?_ hrc
        clear hn2
        rintro v h1 ⟨rfl,h2,hn2,rfl⟩
        cases hw:(wayAt g xe.to.toNat)[y.rank+1]? with
        | none=>
          have hgv:getV g xe.to.toNat (y.rank+1)=.tup [.agg (encWy wy0),.bool false]:=by unfold getV;rw [hw]
          rw [hw] at hl3
          rw [hgv]
          have hok:NodeS (clsG g es) t false Q:=⟨hok.ok.skip hy hl1 hl3,by simp;omega,hok.asked⟩
          conv=>whnf
          repeat ((first|refine ⟨_,_,Rem.here _,⟨Nat.le_of_ble_eq_true rfl,rfl⟩,?_⟩|intro (nb:Nat));conv=>whnf)
          refine cF rfl ?_
          cases hQ:Q with
          | nil=>
            subst hQ
            have hgv:getV g at_ rank=.tup [.agg (encWy wy0),.bool false]:=by unfold getV;rw [hwa,mgW_over hok.ok.empty htr]
            have hoo':=hoo
            rcases hoo with ⟨_,rfl,rfl⟩|⟨ob,pr,rfl,rfl⟩
            all_goals
             conv=>whnf
             repeat ((refine ⟨_,_,.tail _ (.tail _ (.head _)),rfl,?_⟩);conv=>whnf)
             refine cT rfl ?_
             conv=>whnf
             repeat ((first|(refine ⟨_,_,.here _,leOK,?_⟩)|refine ⟨_,_,.head _,rfl,?_⟩);conv=>whnf)
             refine ⟨hgv.symm,_,.cons ⟨t,false,[],_,_,_,_,by rw [hca];exact hok,by rw [hca];exact hfo',hoo',rfl⟩ hn2,rb,_,by first|exact permR|exact .refl _|(refine List.Perm.of_eq ?_;simp)⟩
          | cons x Q'=>
            rcases hoo with ⟨h0,rfl,rfl⟩|⟨ob,pr,rfl,rfl⟩
            ·rw [hQ] at h0;cases h0
            subst hQ
            obtain ⟨hx,hok2⟩:=hok.ok.pop
            have htk:=take_one hx
            have hfew:=hok.few
            have hlc:(x::Q').length=Q'.length+1:=rfl
            have htb:((mgW (clsG g es)).take t).length≤65:=by omega
            conv=>whnf
            repeat ((refine ⟨_,_,.tail _ (.tail _ (.head _)),rfl,?_⟩);conv=>whnf)
            refine cF (decide_eq_false (by omega)) ?_
            conv=>whnf
            repeat ((first|(refine ⟨_,_,.tail _ (.tail _ (.head _)),rfl,?_⟩)|(refine ⟨0,gP_of ⟨rfl,by omega⟩,?_⟩)|(refine ldP (i:=0) encWy_len (.tail _ (.tail _ (.tail _ (.tail _ (.head _))))) rfl rfl ?_)|refine And.intro (by show drawOK (opsAt Tryz.f67 _) _=true;decide +kernel) ?_);conv=>whnf)
            first|refine ⟨Nat.le_of_ble_eq_true rfl,fun q'=>?_⟩|refine ⟨(by simp;unfold AMAX;omega),fun q'=>⟨_,.there (.there (.there (.here _))),?_⟩⟩
            conv=>whnf
            repeat ((first|refine ⟨gP_of ⟨by omega,by omega⟩,?_⟩|(refine ⟨_,_,.there (.there (.here _)),leOK,?_⟩)|(refine ⟨_,_,.tail _ (.tail _ (.head _)),rfl,?_⟩));conv=>whnf)
            have e1:pr.length+Int.toNat 1*3=(pr++encWy x).length:=by rw [List.length_append];rfl
            have e2:(((x::Q').length:Nat):Int).toNat - Int.toNat 1=Q'.length:=by rw [Int.toNat_natCast];rfl
            have e3:pr++((x::Q').map encWy).flatten=(pr++encWy x)++(Q'.map encWy).flatten:=by simp
            have hfew2:Q'.length+(if true=true then 1 else 0)≤2000:=by simp at hfew ⊢;omega
            rw [e1,e2,e3]
            first
             | exact ⟨_,_,Turn.refl _ _,_,(by omega),t+1,true,Q',_,[(q',.tok)],_,[(ob,_)],h2,rb,rfl,rfl,rfl,⟨hok2,hfew2,by omega⟩,.inr ⟨q',by rw [htk,List.map_append];rfl,rfl⟩,.inr ⟨ob,pr++encWy x,rfl,rfl⟩,hn2⟩
             | exact ⟨_,_,Turn.perm (List.perm_middle (l₁:=[_,_,_])).symm,_,(by omega),t+1,true,Q',_,[(q',.tok)],_,[(ob,_)],h2,rb,rfl,rfl,rfl,⟨hok2,hfew2,by omega⟩,.inr ⟨q',by rw [htk,hF];rfl,rfl⟩,.inr ⟨ob,pr++encWy x,rfl,rfl⟩,hn2⟩
        | some w=>
          have hgv:getV g xe.to.toNat (y.rank+1)=.tup [.agg (encWy w),.bool true]:=by unfold getV;rw [hw]
          rw [hw] at hl3
          have hwb:=wayAt_bound hg (i:=xe.to.toNat) (by omega) w (List.mem_of_getElem? hw)
          rw [hgv]
          conv=>whnf
          repeat ((first|refine ⟨_,_,Rem.here _,⟨Nat.le_of_ble_eq_true rfl,rfl⟩,?_⟩|intro (nb:Nat));conv=>whnf)
          refine cT rfl ?_
          conv=>whnf
          repeat ((first|refine ⟨gP_of ⟨by omega,by omega⟩,?_⟩|refine And.intro (by show drawOK (opsAt Tryz.f67 _) _=true;decide +kernel) ?_);conv=>whnf)
          refine ACalls.mono ?_ (putCall (x:=⟨xe.cost+w.cost,y.edge,y.rank+1⟩) hok.ok.sorted (nk:=k) (fv:=.sl 3 (some q) (((mgW (clsG g es)).take t).map encWy)) (due:=false) hoo (by omega) [(rb,.vec (encWy wy0)),(tb,tOb g R (.sl 1 nq ((pre++k::ks).map encKey)))] [(q,.tok)] h2)
          have hok2:NodeS (clsG g es) t false (insW ⟨xe.cost+w.cost,y.edge,y.rank+1⟩ Q):=⟨hok.ok.push hy hl1 hl3,by rw [insW_length];simp;omega,hok.asked⟩
          clear hok hoo
          rintro v h1 ⟨rfl,ov,oh,hoo,rfl⟩
          obtain ⟨Q,hQe⟩:∃ Q',Q'=insW ⟨xe.cost+w.cost,y.edge,y.rank+1⟩ Q:=⟨_,rfl⟩
          rw [← hQe] at hoo hok2
          have hok:=hok2
          conv=>whnf
          repeat ((refine ⟨_,_,.tail _ (.tail _ (.head _)),rfl,?_⟩);conv=>whnf)
          cases hQ:Q with
          | nil=>
            subst hQ
            have hgv:getV g at_ rank=.tup [.agg (encWy wy0),.bool false]:=by unfold getV;rw [hwa,mgW_over hok.ok.empty htr]
            have hoo':=hoo
            rcases hoo with ⟨_,rfl,rfl⟩|⟨ob,pr,rfl,rfl⟩
            all_goals
             conv=>whnf
             skip
             refine cT rfl ?_
             conv=>whnf
             repeat ((first|(refine ⟨_,_,.here _,leOK,?_⟩)|refine ⟨_,_,.head _,rfl,?_⟩);conv=>whnf)
             refine ⟨hgv.symm,_,.cons ⟨t,false,[],_,_,_,_,by rw [hca];exact hok,by rw [hca];exact hfo',hoo',rfl⟩ hn2,rb,_,by first|exact permR|exact .refl _|(refine List.Perm.of_eq ?_;simp)⟩
          | cons x Q'=>
            rcases hoo with ⟨h0,rfl,rfl⟩|⟨ob,pr,rfl,rfl⟩
            ·rw [hQ] at h0;cases h0
            subst hQ
            obtain ⟨hx,hok2⟩:=hok.ok.pop
            have htk:=take_one hx
            have hfew:=hok.few
            have hlc:(x::Q').length=Q'.length+1:=rfl
            have htb:((mgW (clsG g es)).take t).length≤65:=by omega
            conv=>whnf
            skip
            refine cF (decide_eq_false (by omega)) ?_
            conv=>whnf
            repeat ((first|(refine ⟨_,_,.tail _ (.tail _ (.head _)),rfl,?_⟩)|(refine ⟨0,gP_of ⟨rfl,by omega⟩,?_⟩)|(refine ldP (i:=0) encWy_len (.tail _ (.tail _ (.tail _ (.tail _ (.head _))))) rfl rfl ?_)|refine And.intro (by show drawOK (opsAt Tryz.f67 _) _=true;decide +kernel) ?_);conv=>whnf)
            first|refine ⟨Nat.le_of_ble_eq_true rfl,fun q'=>?_⟩|refine ⟨(by simp;unfold AMAX;omega),fun q'=>⟨_,.there (.there (.there (.here _))),?_⟩⟩
            conv=>whnf
            repeat ((first|refine ⟨gP_of ⟨by omega,by omega⟩,?_⟩|(refine ⟨_,_,.there (.there (.here _)),leOK,?_⟩)|(refine ⟨_,_,.tail _ (.tail _ (.head _)),rfl,?_⟩));conv=>whnf)
            have e1:pr.length+Int.toNat 1*3=(pr++encWy x).length:=by rw [List.length_append];rfl
            have e2:(((x::Q').length:Nat):Int).toNat - Int.toNat 1=Q'.length:=by rw [Int.toNat_natCast];rfl
            have e3:pr++((x::Q').map encWy).flatten=(pr++encWy x)++(Q'.map encWy).flatten:=by simp
            have hfew2:Q'.length+(if true=true then 1 else 0)≤2000:=by simp at hfew ⊢;omega
            rw [e1,e2,e3]
            first
             | exact ⟨_,_,Turn.refl _ _,_,(by omega),t+1,true,Q',_,[(q',.tok)],_,[(ob,_)],h2,rb,rfl,rfl,rfl,⟨hok2,hfew2,by omega⟩,.inr ⟨q',by rw [htk,List.map_append];rfl,rfl⟩,.inr ⟨ob,pr++encWy x,rfl,rfl⟩,hn2⟩
             | exact ⟨_,_,Turn.perm (List.perm_middle (l₁:=[_,_,_])).symm,_,(by omega),t+1,true,Q',_,[(q',.tok)],_,[(ob,_)],h2,rb,rfl,rfl,rfl,⟨hok2,hfew2,by omega⟩,.inr ⟨q',by rw [htk,hF];rfl,rfl⟩,.inr ⟨ob,pr++encWy x,rfl,rfl⟩,hn2⟩
     ·obtain ⟨w,hw⟩:=get_lt (l:=(mgW (clsG g es)).take t) (i:=rank) (by omega)
      have hw2:=hw
      rw [List.getElem?_take_of_lt (by omega)] at hw2
      conv=>whnf
      repeat ((first|refine ix (by assumption) ?_|(refine ⟨_,_,.tail _ (.tail _ (.head _)),rfl,?_⟩)|(refine ⟨_,_,.here _,leOK,?_⟩)|refine ⟨_,_,.head _,rfl,?_⟩);conv=>whnf)
      refine ⟨?_,_,.cons ⟨t,due,Q,_,_,_,_,by rw [hca];exact hok,by rw [hca];exact hfo',hoo,rfl⟩ hn2,rb,_,permR⟩
      unfold getV
      rw [hwa,hw2];rfl
 ·rintro v h1 ⟨hv,hp',hn',rb,o,hpm⟩
  refine ⟨v,_,⟨hv,hp',hn',rfl⟩,VLe.refl _,fun k o hm=>hpm.mem_iff.2 (List.mem_cons_of_mem _ hm),fun hn=>?_⟩
  have:=((hpm.map (fun p:Nat × Ob=>p.1)).nodup_iff).1 hn
  exact (List.nodup_cons.1 this).2
theorem getAll (g:List (List Edg)) (hg:GOK g):∀ (d j:Nat),j+d=g.length→GetC g j:=by
 intro d
 induction d using Nat.strongRecOn with
 | _ d ih=>exact fun j hj=>getStep g hg j (by omega) fun i h1 h2=>ih (g.length - i) (by omega) i (by omega)
end Go.Abs.Wall.Lst
namespace Go.Abs.Wall.Lst
open Go Go.Abs Go.Proofs Go.Abs.Wall
theorem zeroNode (g:List (List Edg)) (i:Nat) (k:Nat) (Q:List Wy) (ov:AV) (oh:Heap) (hq:begQ (clsAt g i) (clsAt g i).length Q) (hl:Q.length≤2000) (ho:OpenR Q ov oh):Nodes g i [k] ((k,.vec (ndC .nilS ov false))::oh):=by
 have:=Nodes.cons (g:=g) (i:=i) (k:=k) (ks:=[]) (h1:=(k,.vec (ndC .nilS ov false))::([]++oh)) (h2:=[]) ⟨0,false,Q,.nilS,[],ov,oh,⟨begQ_end hq,by simpa using hl,by omega⟩,.inl ⟨by simp,rfl,rfl⟩,ho,rfl⟩ (.nil _)
 simpa using this
def c40:Cfg:=⟨[0,2,3,4,5,6,7,8,16,17,18,29,30,31,32,45],[11,22],[7],[],[(9,[0,1,2,3,4,5,6,7,8],[]),(11,[0,1,2,3,4,5,6,7,8,9],[])],[55]⟩
theorem beginW (g:List (List Edg)) (hg:GOK g):ACalls Tryz.prog 40 [.iptr (encForest g (restT g))] [] (fun v h'=>∃ tb ks nq nv hp,v=.optr tb 0∧ks.length=g.length∧(g=[]∨nv=.sl 1 nq (ks.map encKey))∧Nodes g 0 ks hp∧h'=(tb,tOb g (restT g) nv)::hp):=by
 have hgf:=hg.few
 refine ACalls.post (R:=fun v h'=>∃ tb ks nv nh hp,v=.optr tb 0∧ks.length=g.length∧Out 1 encKey ks nv nh∧Nodes g 0 ks hp∧h'=(tb,tOb g (restT g) nv)::(nh++hp)) ?_ ?_
 ·refine fcalls (F:=Tryz.f40) c40 rfl rfl rfl mixed rfl fun X=>?_
  conv=>whnf
  repeat (intro (nb:Nat);conv=>whnf)
  refine tloop rfl mixed [0,3,16,17] [] (fun m r h=>∃ (tb i:Nat) (ks:List Nat) (nv:AV) (nh hp:Heap),r=[(0,[],.iptr (encForest g (restT g))),(3,[],.optr tb 0),(16,[],.int .i64 g.length),(17,[],.int .i64 i)]∧h=(tb,tOb g (restT g) nv)::(nh++hp)∧m=g.length - i∧i≤g.length∧ks.length=i∧Out 1 encKey ks nv nh∧Nodes g 0 ks hp) ?_ ?_
  ·conv=>whnf
   exact ⟨_,_,Turn.refl _ _,_,nb,0,[],.nilS,[],[],by rw [List.length_map];rfl,rfl,rfl,by omega,rfl,.inl ⟨rfl,rfl,rfl⟩,.nil _⟩
  ·rintro m r h' ⟨tb,i,ks,nv,nh,hp,rfl,rfl,rfl,hi,hkl,hno,hN⟩
   conv=>whnf
   refine ⟨fun hz=>?_,fun hz=>?_⟩<;>simp at hz
   ·obtain ⟨es,hes⟩:=get_lt (l:=g) (i:=i) hz
    have hE:=hg.edge i es hes
    have hca:clsAt g i=clsG g es:=by unfold clsAt;rw [List.getD_eq_getElem?_getD,hes];rfl
    have hmany:=hg.many i es hes
    conv=>whnf
    repeat ((first|refine ix (by assumption) ?_|intro (nb:Nat));conv=>whnf)
    refine tloop rfl mixed [0,3,5,16,17,29,30,31] [] (fun m r h=>∃ (j:Nat) (Q:List Wy) (ov:AV) (oh:Heap) (k:Nat),r=[(0,[],.iptr (encForest g (restT g))),(3,[],.optr tb 0),(5,[],.optr k 0),(16,[],.int .i64 g.length),(17,[],.int .i64 i),(29,[],.sl 7 none (es.map encEdg)),(30,[],.int .i64 (es.map encEdg).length),(31,[],.int .i64 j)]∧h=(tb,tOb g (restT g) nv)::(k,.vec (ndC .nilS ov false))::(nh++(oh++hp))∧m=es.length - j∧j≤es.length∧begQ (clsG g es) j Q∧Q.length≤j∧OpenR Q ov oh) ?_ ?_
    ·conv=>whnf
     exact ⟨_,_,Turn.perm (List.Perm.swap _ _ _),_,0,[],.nilS,[],nb,rfl,rfl,rfl,by omega,begQ_zero _,by simp,.inl ⟨rfl,rfl,rfl⟩⟩
    ·rintro m r h' ⟨j,Q,ov,oh,k,rfl,rfl,rfl,hj,hbq,hQl,hoo⟩
     conv=>whnf
     refine ⟨fun hz2=>?_,fun hz2=>?_⟩<;>simp at hz2
     ·obtain ⟨x,hx⟩:=get_lt (l:=es) (i:=j) hz2
      have hxo:=hE x (List.mem_of_getElem? hx)
      have hxlo:=hxo.lo
      have hxhi:=hxo.hi
      have hxc:=hxo.cost
      have hto:x.to=((x.to.toNat:Nat):Int):=(Int.toNat_of_nonneg (by omega)).symm
      have hrg:=restT_get g x.to.toNat (by omega)
      have hrf:=rest_first hg (g.length - x.to.toNat) x.to.toNat (by omega)
      obtain ⟨l,hl1,hl2⟩:=clsG_get hg hes hx
      have hl3:=hl2 0
      conv=>whnf
      repeat ((first|refine ix (by assumption) ?_|(refine ixn x.to.toNat hto hrg ?_)|refine ⟨_,_,Rem.here _,⟨Nat.le_of_ble_eq_true rfl,rfl⟩,?_⟩|refine And.intro (by show drawOK (opsAt Tryz.f40 _) _=true;decide +kernel) ?_|intro (nb:Nat));conv=>whnf)
      cases hw:(wayAt g x.to.toNat)[0]? with
      | none=>
        rw [hw] at hrf hl3
        rw [hrf]
        refine cF rfl ?_
        conv=>whnf
        repeat (refine ⟨gP_of ⟨by omega,by omega⟩,?_⟩;conv=>whnf)
        exact ⟨_,_,Turn.refl _ _,_,(by omega),j+1,Q,ov,oh,k,rfl,rfl,rfl,by omega,begQ_skip hbq hl1 hl3,by omega,hoo⟩
      | some w=>
        rw [hw] at hrf hl3
        have hwb:=wayAt_bound hg (i:=x.to.toNat) (by omega) w (List.mem_of_getElem? hw)
        have hrf:restV g x.to.toNat=w.cost:=hrf
        rw [hrf]
        refine cT (by simp;omega) ?_
        conv=>whnf
        repeat ((first|refine ⟨gP_of ⟨by omega,by omega⟩,?_⟩|refine And.intro (by show drawOK (opsAt Tryz.f40 _) _=true;decide +kernel) ?_);conv=>whnf)
        refine ACalls.mono ?_ (putCall (x:=⟨x.cost+w.cost,j,0⟩) hbq.1 (nk:=k) (fv:=.nilS) (due:=false) hoo (by omega) [(tb,tOb g (restT g) nv)] nh hp)
        clear hoo
        rintro v h1 ⟨rfl,ov,oh,hoo,rfl⟩
        conv=>whnf
        repeat (refine ⟨gP_of ⟨by omega,by omega⟩,?_⟩;conv=>whnf)
        exact ⟨_,_,Turn.refl _ _,_,(by omega),j+1,_,ov,oh,k,rfl,rfl,rfl,by omega,begQ_put hbq hl1 hl3,by rw [insW_length];omega,hoo⟩
     ·have hje:j=es.length:=by omega
      subst hje
      have hnN:Nodes g i [k] ((k,.vec (ndC .nilS ov false))::oh):=zeroNode g i k Q ov oh (by rw [hca,clsG_len];exact hbq) (by omega) hoo
      have hNj:=hN.join (by rw [hkl,Nat.zero_add];exact hnN)
      have hml:(ks.map encKey).length=ks.length:=List.length_map _
      have hp1:∀ (o:Ob) (q:Nat × Ob),((tb,o)::(k,Ob.vec (ndC .nilS ov false))::q::(oh++hp)).Perm ((tb,o)::([q]++(hp++((k,.vec (ndC .nilS ov false))::oh)))):=by
       intro o q
       refine List.Perm.cons _ ((List.Perm.swap _ _ _).trans (List.Perm.cons _ ?_))
       exact List.perm_append_comm (l₁:=(k,Ob.vec (ndC .nilS ov false))::oh) (l₂:=hp)
      rcases hno with ⟨hk0,rfl,rfl⟩|⟨q0,rfl,rfl⟩
      ·subst hk0
       conv=>whnf
       repeat ((first|refine ⟨gP_of ⟨by omega,by omega⟩,?_⟩|(refine ⟨Nat.le_of_ble_eq_true rfl,fun q=>?_⟩)|refine ⟨_,_,.head _,rfl,?_⟩|refine ⟨_,_,.there (.here _),leOK,?_⟩);conv=>whnf)
       exact ⟨_,_,Turn.perm ((List.perm_middle (l₁:=[_,_])).symm.trans (hp1 _ (q,.tok))),_,(by omega),tb,i+1,[k],.sl 1 (some q) [[.optr k 0]],[(q,.tok)],_,rfl,rfl,rfl,by omega,by simp at hkl ⊢;omega,.inr ⟨q,rfl,rfl⟩,hNj⟩
      ·conv=>whnf
       repeat ((first|refine ⟨gP_of ⟨by omega,by omega⟩,?_⟩|(refine ⟨(by rw [List.length_append,hml];simp;unfold AMAX;omega),fun q=>⟨_,.there (.there (.here _)),?_⟩⟩)|refine ⟨_,_,.head _,rfl,?_⟩|refine ⟨_,_,.here _,leOK,?_⟩);conv=>whnf)
       exact ⟨_,_,Turn.perm (hp1 _ (q,.tok)),_,(by omega),tb,i+1,ks++[k],.sl 1 (some q) (ks.map encKey++[[.optr k 0]]),[(q,.tok)],_,rfl,rfl,rfl,by omega,by rw [List.length_append,hkl];rfl,.inr ⟨q,by rw [List.map_append];rfl,rfl⟩,hNj⟩
   ·have:i=g.length:=by omega
    subst this
    conv=>whnf
    skip
    exact ⟨tb,ks,nv,nh,hp,rfl,hkl,hno,hN,rfl⟩
 ·rintro v h1 ⟨tb,ks,nv,nh,hp,rfl,hkl,ho,hN,rfl⟩
  refine ⟨.optr tb 0,(tb,tOb g (restT g) nv)::hp,?_,VLe.refl _,fun k o hm=>?_,fun hn=>?_⟩
  ·rcases ho with ⟨rfl,rfl,rfl⟩|⟨q,rfl,rfl⟩
   ·exact ⟨tb,[],none,.nilS,hp,rfl,hkl,.inl (List.eq_nil_of_length_eq_zero hkl.symm),hN,rfl⟩
   ·exact ⟨tb,ks,some q,_,hp,rfl,hkl,.inr rfl,hN,rfl⟩
  ·rcases List.mem_cons.1 hm with h|h
   ·rw [h];exact List.mem_cons_self
   ·exact List.mem_cons_of_mem _ (List.mem_append_right _ h)
  ·unfold keys at hn ⊢
   simp only [List.map_cons,List.map_append,List.nodup_cons,List.mem_append,not_or,List.nodup_append] at hn ⊢
   exact ⟨hn.1.2,hn.2.2.1⟩
end Go.Abs.Wall.Lst
