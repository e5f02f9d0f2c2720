/- Small laws for the walks and contracts of functions; each theorem names its conditions. -/
import Derived.Test.YthmcbjcgdfmmaaaGreatN14
import Derived.Test.YthmcbjcgdfmmaaaGreatN11
import Derived.Test.YthmcbjcgdfmmaaaGreatN7
set_option maxRecDepth 100000
set_option maxHeartbeats 2000000
namespace Go.Abs.Wall
open Go Go.Abs Go.Proofs
abbrev nQ:=Int × List ar
def pB (x:ar) (l:List nQ):List Int:=l.map fun p=>x.cost+p.1
def nR (es:List ar) (T:ar->List nQ) (w:Wy):nQ:=match es[w.aR]? with
 | none=>(w.cost,[])
 | some x=>(w.cost,x::((T x).getD w.aO (0,[])).2)
def yG (T:List (List nQ)) (x:ar):List nQ:=T.getD (x.word.ay.length - 1) []
def sP:List (List ar)->List (List nQ)
 | []=>[[(0,[])]]
 | es::g=>((aW (es.map fun x=>pB x (yG (sP g) x))).map (nR es (yG (sP g))))::sP g
def bz (g:List (List ar)) (i:Nat):List nQ:=(sP (g.drop i)).headD []
theorem NS:∀ (g:List (List ar)) (i:Nat),i<=g.length->(sP g)[i]?=some (bz g i)
 | [],i,h=>by have:i=0:=(by simpa using h);subst this;rfl
 | es::g,0,_=>by simp [sP,bz]
 | es::g,i+1,h=>by have:=NS g i (by simpa using h);simp only [sP,List.getElem?_cons_succ];rw [this];rfl
theorem UM (g:List (List ar)) (a i:Nat):bz (g.drop a) i=bz g (a+i):=by unfold bz;rw [List.drop_drop]
theorem yH (g:List (List ar)):bz g g.length=[(0,[])]:=by unfold bz;rw [List.drop_length];rfl
theorem NT {g:List (List ar)} {i:Nat} {x:ar} (hx:Fe g.length i x):yG (sP (g.drop (i+1))) x=bz g x.to.toNat:=by have h1:=hx.lo;have h2:=hx.hi;have h3:=hx.to;unfold yG;have h4:=NS (g.drop (i+1)) (x.word.ay.length - 1) (by rw [List.length_drop];omega);rw [UM,show i+1+(x.word.ay.length - 1)=x.to.toNat by omega] at h4;rw [List.getD_eq_getElem?_getD,h4];rfl
def dE (g:List (List ar)) (es:List ar):List (List Int):=es.map fun x=>pB x (bz g x.to.toNat)
def dp (g:List (List ar)) (i:Nat):List Wy:=match g[i]? with
 | none=>[⟨0,0,0⟩]
 | some es=>aW (dE g es)
theorem UN {es:List ar} {T T':ar->List nQ} (h:∀ x∈es,T x=T' x) (w:Wy):nR es T w=nR es T' w:=by
 unfold nR;cases hx:es[w.aR]? with
 | none=>rfl
 | some x=>simp only [h x (List.mem_of_getElem? hx)]
theorem wM {g:List (List ar)} {i:Nat} {es:List ar} (h:g[i]?=some es) (hx:∀ x∈es,Fe g.length i x) :
  bz g i=(aW (dE g es)).map (nR es fun x=>bz g x.to.toNat):=by
 have e1:bz g i=(aW (es.map fun x=>pB x (yG (sP (g.drop (i+1))) x))).map (nR es (yG (sP (g.drop (i+1))))):=by unfold bz;rw [drop_cons h];rfl
 have e2:(es.map fun x=>pB x (yG (sP (g.drop (i+1))) x))=dE g es:=by unfold dE;exact List.map_congr_left fun x hm=>by rw [NT (hx x hm)]
 rw [e1,e2];exact List.map_congr_left fun w _=>UN (fun x hm=>NT (hx x hm)) w
theorem IG {es:List ar} {T:ar->List nQ} {w:Wy}:(nR es T w).1=w.cost:=by unfold nR;cases es[w.aR]?<;>rfl
theorem yI {g:List (List ar)} (hg:fJ g) {i:Nat} (hi:i<=g.length) (r:Nat):((bz g i)[r]?).map (·.1)=((dp g i)[r]?).map (·.cost):=by
 by_cases h:i<g.length
 ·obtain ⟨es,bp⟩:=aF h;rw [wM bp (hg.aR i es bp)];unfold dp;rw [bp];simp only [List.getElem?_map,Option.map_map];congr 1;funext w;exact IG
 have:i=g.length:=(by omega);subst this;rw [yH];unfold dp;rw [List.getElem?_eq_none (Nat.le_refl _)];cases r<;>simp
theorem yJ {g:List (List ar)} (hg:fJ g) {i:Nat} {es:List ar} (bp:g[i]?=some es) {k:Nat} {x:ar} (hx:es[k]?=some x) :
  ∃ l:List Int,(dE g es)[k]?=some l/\∀ r:Nat,l[r]?=((dp g x.to.toNat)[r]?).map (fun (w:Wy)=>x.cost+w.cost):=by
 have ho:=hg.aR i es bp x (List.mem_of_getElem? hx);refine ⟨pB x (bz g x.to.toNat),by unfold dE;rw [List.getElem?_map,hx];rfl,fun r=>?_⟩;have:=yI hg (i:=x.to.toNat) (by have:=ho.hi;omega) r;unfold pB;rw [List.getElem?_map];have e:∀ o:Option nQ,o.map (fun p=>x.cost+p.1)=(o.map (·.1)).map fun c=>x.cost+c:=fun o=>by cases o<;>rfl
 rw [e,this];cases (dp g x.to.toNat)[r]?<;>rfl
theorem Ct (g:List (List ar)) (es:List ar):(dE g es).length=es.length:=by simp [dE]
theorem NU {g:List (List ar)} (hg:fJ g):∀ (d i:Nat),i+d=g.length->∀ p∈bz g i,0<=p.1/\p.1<=18000*(d:Int):=by
 intro d;induction d using Nat.strongRecOn with
 | _ d ih=>
   intro i hi p hp;by_cases h:i<g.length
   ·obtain ⟨es,bp⟩:=aF h;have hE:=hg.aR i es bp;rw [wM bp hE,List.mem_map] at hp;obtain ⟨w,hw,rfl⟩:=hp;rw [IG];obtain ⟨t,ht⟩:=List.mem_iff_getElem?.1 hw;obtain ⟨_,l,h2,h3⟩:=mG ht;unfold dE at h2;rw [List.getElem?_map] at h2;cases hx:es[w.aR]? with
    | none=>rw [hx] at h2;cases h2
    | some x=>
      rw [hx] at h2;cases h2
      have ho:=hE x (List.mem_of_getElem? hx);unfold pB at h3;rw [List.getElem?_map] at h3;cases hq:(bz g x.to.toNat)[w.aO]? with
      | none=>rw [hq] at h3;cases h3
      | some q=>
        rw [hq] at h3;have h3:x.cost+q.1=w.cost:=(by simpa using h3);have h5:=ho.lo;have h6:=ho.hi;have h7:=ho.cost;have:=ih (g.length - x.to.toNat) (by omega) x.to.toNat (by omega) q (List.mem_of_getElem? hq);omega
   have:i=g.length:=(by omega);subst this;rw [yH] at hp;simp at hp;subst hp;simp;omega
theorem Aw {g:List (List ar)} (hg:fJ g) {i:Nat} (hi:i<=g.length):∀ w∈dp g i,0<=w.cost/\w.cost<=1080000:=by
 intro w hw;obtain ⟨t,ht⟩:=List.mem_iff_getElem?.1 hw;have:=yI hg hi t;rw [ht] at this;cases hq:(bz g i)[t]? with
 | none=>rw [hq] at this;cases this
 | some p=>
   rw [hq] at this;have hc:p.1=w.cost:=(by simpa using this);have h1:=NU hg (g.length - i) i (by omega) p (List.mem_of_getElem? hq);have:=hg.bB;omega
theorem NV (t:List Int) (v:ar->Int):∀ (es:List ar) (r:Int),(∀ x∈es,t.getD (x.word.ay.length - 1) 0=v x)->(∀ x∈es,-1<=v x/\0<=x.cost)->-1<=r ->
  (es.foldl (jJ t) r=r\/∃ x∈es,v x≠-1/\es.foldl (jJ t) r=x.cost+v x)/\(r≠-1->es.foldl (jJ t) r≠-1/\es.foldl (jJ t) r<=r)/\(∀ x∈es,v x≠-1->es.foldl (jJ t) r≠-1/\es.foldl (jJ t) r<=x.cost+v x)
 | [],r,_,_,_=>⟨.inl rfl,fun h=>⟨h,Int.le_refl _⟩,fun x hx=>by cases hx⟩
 | x::es,r,hv,hc,hr=>by
   rw [List.foldl_cons];have hq:jJ t r x=sQ (v x) r x.cost:=by unfold jJ;rw [hv x (by simp)]
   have jK:=hc x (by simp);obtain ⟨r',qw⟩:∃ r',r'=jJ t r x:=⟨_,rfl⟩;rw [<- qw]
   have ax:(r'=r\/v x≠-1/\r'=x.cost+v x)/\(r≠-1->r'≠-1/\r'<=r)/\(v x≠-1->r'≠-1/\r'<=x.cost+v x):=by
    rw [qw,hq];unfold sQ;split
    ·rename_i h;simp at h;refine ⟨.inr ⟨h.1,rfl⟩,fun h2=>?_,fun h2=>?_⟩<;>omega
    rename_i h;simp at h;refine ⟨.inl rfl,fun h2=>⟨h2,Int.le_refl _⟩,fun h2=>?_⟩;have:=h h2;omega
   obtain ⟨s1,s2,s3⟩:=ax;obtain ⟨h1,h2,h3⟩:=NV t v es r' (fun y hy=>hv y (by simp [hy])) (fun y hy=>hc y (by simp [hy])) (by rcases s1 with e|⟨e1,e2⟩<;>omega)
   obtain ⟨z,hz⟩:∃ z,z=es.foldl (jJ t) r':=⟨_,rfl⟩;rw [<- hz] at h1 h2 h3 ⊢;refine ⟨?_,fun hn=>?_,fun y hy NW=>?_⟩
   ·rcases h1 with e|⟨y,hy,e⟩
    ·rcases s1 with e2|⟨e2,e3⟩
     ·exact .inl (e.trans e2)
     exact .inr ⟨x,by simp,e2,e.trans e3⟩
    exact .inr ⟨y,by simp [hy],e⟩
   ·obtain ⟨a,b⟩:=s2 hn;obtain ⟨c,d⟩:=h2 a;exact ⟨c,by omega⟩
   rcases List.mem_cons.1 hy with rfl|hy
   ·obtain ⟨a,b⟩:=s3 NW;obtain ⟨c,d⟩:=h2 a;exact ⟨c,by omega⟩
   exact h3 y hy NW
theorem UO {g:List (List ar)} {i:Nat} {es:List ar} (h:g[i]?=some es):eE g i=es.foldl (jJ (dV (g.drop (i+1)))) (-1):=by unfold eE;rw [drop_cons h];rfl
theorem Cu {g:List (List ar)} (hg:fJ g):∀ (d i:Nat),i+d=g.length->eE g i=match (dp g i)[0]? with
  | none=>-1
  | some w=>w.cost:=by
 intro d;induction d using Nat.strongRecOn with
 | _ d ih=>
   intro i hi;by_cases h:i<g.length
   ·obtain ⟨es,bp⟩:=aF h;have hE:=hg.aR i es bp;have jl:∀ x∈es,(dV (g.drop (i+1))).getD (x.word.ay.length - 1) 0=eE g x.to.toNat:=by intro x hx;have ho:=hE x hx;have h1:=ho.lo;have h2:=ho.hi;have h3:=ho.to;have h4:=yD (g.drop (i+1)) (x.word.ay.length - 1) (by rw [List.length_drop];omega);rw [II,show i+1+(x.word.ay.length - 1)=x.to.toNat by omega] at h4;rw [List.getD_eq_getElem?_getD,h4];rfl
    have wN:∀ x∈es,eE g x.to.toNat=match (dp g x.to.toNat)[0]? with
      | none=>-1
      | some w=>w.cost:=by
     intro x hx;have ho:=hE x hx;have h1:=ho.lo;have h2:=ho.hi;exact ih (g.length - x.to.toNat) (by omega) _ (by omega)
    have eb:∀ x∈es,∀ w,(dp g x.to.toNat)[0]?=some w->0<=w.cost:=by intro x hx w hw;exact (Aw hg (by have:=(hE x hx).hi;omega) w (List.mem_of_getElem? hw)).1
    have IJ:∀ x∈es,-1<=eE g x.to.toNat/\0<=x.cost:=by
     intro x hx;refine ⟨?_,(hE x hx).cost.1⟩;rw [wN x hx];cases hw:(dp g x.to.toNat)[0]? with
     | none=>simp
     | some w=>have:=eb x hx w hw;simp only;omega
    obtain ⟨f1,f2,f3⟩:=NV (dV (g.drop (i+1))) (fun x=>eE g x.to.toNat) es (-1) jl IJ (by omega);rw [UO bp];obtain ⟨z,hz⟩:∃ z,z=es.foldl (jJ (dV (g.drop (i+1)))) (-1):=⟨_,rfl⟩;rw [<- hz] at f1 f3 ⊢;have lZ:dp g i=aW (dE g es):=by unfold dp;rw [bp]
    rw [lZ,kP]
    have qA:∀ y,ig (dE g es) (dz (dE g es) 0) y↔∃ x w,es[y.aR]?=some x/\(dp g x.to.toNat)[0]?=some w/\y.cost=x.cost+w.cost/\y.aO=0:=by
     intro y;constructor
     ·rintro ⟨q1,l,q2,q3⟩;have q1:y.aO=0:=q1;rw [q1] at q3;have aP:=(List.getElem?_eq_some_iff.1 q2).1;rw [Ct] at aP;obtain ⟨x,hx⟩:=aF aP;obtain ⟨l',e1,e2⟩:=yJ hg bp hx;rw [q2] at e1;cases e1
      rw [e2] at q3;cases hw:(dp g x.to.toNat)[0]? with
      | none=>rw [hw] at q3;cases q3
      | some w=>rw [hw] at q3;exact ⟨x,w,hx,hw,by simpa using q3.symm,q1⟩
     rintro ⟨x,w,hx,hw,hc,h0⟩;obtain ⟨l',e1,e2⟩:=yJ hg bp hx;exact ⟨h0,l',e1,by rw [h0,e2,hw,hc];rfl⟩
    cases hb:fK (dE g es) (dz (dE g es) 0) with
    | none=>
      rcases f1 with e|⟨x,hx,hv,e⟩
      ·exact e
      obtain ⟨k,hk⟩:=List.mem_iff_getElem?.1 hx;rw [wN x hx] at hv;cases hw:(dp g x.to.toNat)[0]? with
      | none=>rw [hw] at hv;exact absurd rfl hv
      | some w=>exact absurd ((qA ⟨x.cost+w.cost,k,0⟩).2 ⟨x,w,hk,hw,rfl,rfl⟩) (Iu hb _)
    | some y=>
      obtain ⟨b1,b2⟩:=Cj hb;obtain ⟨x,w,hx,hw,hc,h0⟩:=(qA y).1 b1;have vg:=List.mem_of_getElem? hx;have gw:eE g x.to.toNat=w.cost:=(by rw [wN x vg,hw]);have Cv:=eb x vg w hw;obtain ⟨g1,g2⟩:=f3 x vg (by omega);simp only at g2 ⊢;rcases f1 with e|⟨x',iU,uX,e⟩
      ·exact absurd e g1
      obtain ⟨k,hk⟩:=List.mem_iff_getElem?.1 iU;rw [wN x' iU] at uX e;cases kR:(dp g x'.to.toNat)[0]? with
      | none=>rw [kR] at uX;exact absurd rfl uX
      | some w'=>
        rw [kR] at e;have hm:=b2 ⟨x'.cost+w'.cost,k,0⟩ ((qA _).2 ⟨x',w',hk,kR,rfl,rfl⟩);rcases hm with e2|hl
        ·have:x'.cost+w'.cost=y.cost:=(by rw [<- e2]);simp only at e;omega
        unfold dy at hl;simp only at hl e;omega
   have:i=g.length:=(by omega);subst this;rw [IK];unfold dp;rw [List.getElem?_eq_none (Nat.le_refl _)];rfl
end Go.Abs.Wall
namespace Go.Abs.Wall.Lst
open Go Go.Abs Go.Proofs Go.Abs.Wall
structure rH (cls:List (List Int)) (t:Nat) (due:Bool) (Q:List Wy):Prop where
 ok:nF cls t due Q
 bB:Q.length+(if due=true then 1 else 0)<=2000
 asked:t<=65
def uc (cls:List (List Int)) (nk:Nat) (hp:af):Prop:=∃ t due Q fv fh ov oh,rH cls t due Q/\Out 3 al ((aW cls).take t) fv fh/\fj Q ov oh/\hp=(nk,.vec (cm fv ov due))::(fh++oh)
def yK (g:List (List ar)) (i:Nat):List (List Int):=dE g (g.getD i [])
inductive fk (g:List (List ar)):Nat->List Nat->af->Prop
 | nil (i:Nat):fk g i [] []
 | cons {i k:Nat} {ks:List Nat} {h1 h2:af}:uc (yK g i) k h1->fk g (i+1) ks h2->fk g i (k::ks) (h1++h2)
theorem fk.split {g:List (List ar)}:∀ {i:Nat} {ks:List Nat} {hp:af} (n:Nat),fk g i ks hp->n<=ks.length->∃ hA hB,hp=hA++hB/\fk g i (ks.take n) hA/\fk g (i+n) (ks.drop n) hB
 | i,ks,hp,0,h,_=>⟨[],hp,rfl,by simpa using .nil i,by simpa using h⟩
 | i,_,_,n+1,.nil _,hn=>by simp at hn
 | i,_,_,n+1,.cons (k:=k) (ks:=ks) (h1:=h1) (h2:=h2) oG ud,hn=>by obtain ⟨hA,hB,rfl,e1,e2⟩:=fk.split n ud (by simpa using hn);refine ⟨h1++hA,hB,by rw [List.append_assoc],.cons oG e1,?_⟩;rw [show i+(n+1)=i+1+n by omega];exact e2
theorem fk.join {g:List (List ar)}:∀ {i:Nat} {ks Fv:List Nat} {hA hB:af},fk g i ks hA->fk g (i+ks.length) Fv hB->fk g i (ks++Fv) (hA++hB)
 | i,_,Fv,_,hB,.nil _,h2=>by simpa using h2
 | i,_,Fv,_,hB,.cons (k:=k) (ks:=ks) (h1:=h1) (h2:=h2) oG ud,h3=>by rw [List.append_assoc];refine .cons oG (fk.join ud ?_);rw [show i+1+ks.length=i+(k::ks).length by simp;omega];exact h3
def sR:Wy:=⟨0,0,0⟩
def bW (g:List (List ar)) (i aO:Nat):AV:=match (dp g i)[aO]? with
 | some w=>.aB [.agg (al w),.bool true]
 | none=>.aB [.agg (al sR),.bool false]
def mI (k:Nat):List AV:=[.ba k 0]
def gh (g:List (List ar)) (R:List Int) (nv:AV):Ob:=.vec [.ai (Ax g R),nv]
def kS (g:List (List ar)) (at_:Nat):Prop:=
 ∀ (tb:Nat) (R:List Int) (pre ks:List Nat) (nq:Option Nat) (nv:AV) (aO:Nat) (hp:af),pre.length=at_->(pre++ks).length=g.length->(g=[]\/nv=.sl 1 nq ((pre++ks).map mI))->fk g at_ ks hp->aO<=64 ->
  aw Tryz.prog 114 [.ba tb 0,.int .i64 at_,.int .i64 aO] ((tb,gh g R nv)::hp) (fun v h'=>v=bW g at_ aO/\∃ aX,fk g at_ ks aX/\h'=(tb,gh g R nv)::aX)
theorem vh {cls:List (List Int)} {t r:Nat} (h:(aW cls)[t]?=none) (hr:t<=r):(aW cls)[r]?=none:=by rw [List.getElem?_eq_none_iff] at h ⊢;omega
theorem take_one {cls:List (List Int)} {t:Nat} {x:Wy} (h:(aW cls)[t]?=some x):(aW cls).take (t+1)=(aW cls).take t++[x]:=cN h
theorem Out.len {α:Type} {k:Nat} {enc:α->List AV} {o:List α} {v:AV} {hp:af} (h:Out k enc o v hp):lenOf? v=some o.length:=by
 rcases h with ⟨rfl,rfl,rfl⟩|⟨q,rfl,rfl⟩
 ·rfl
 simp [lenOf?]
theorem Cw {a b c:Nat × Ob} {fh oh h2:af}:(a::b::c::(fh++(oh++h2))).Perm (a::b::((c::(fh++oh))++h2)):=by rw [List.cons_append,List.append_assoc]
theorem IL {A B C D:af}:(D++(A++(B++C))).Perm (A++(B++(C++D))):=by have h:A++(B++(C++D))=(A++(B++C))++D:=(by simp [List.append_assoc]);rw [h];exact List.perm_append_comm
theorem NX {A B C D:af}:(D++(A++(B++C))).Perm (A++(B++(D++C))):=by have h:A++(B++(D++C))=(A++B)++(D++C):=(by simp [List.append_assoc]);have h2:D++(A++(B++C))=D++((A++B)++C):=(by simp [List.append_assoc]);rw [h,h2];exact List.perm_append_comm_assoc _ _ _
theorem qB {g:List (List ar)} {at_ j:Nat} (IH:kS g j) (hj:at_<j) (eI:j<=g.length) {tb:Nat} {R:List Int} {pre ks:List Nat} {k:Nat} {nq:Option Nat} (cM:pre.length=at_) (ea:(pre++k::ks).length=g.length) {aO:Nat} (hr:aO<=64) {h2:af} (hn:fk g (at_+1) ks h2) (A B:af) :
  aw Tryz.prog 114 [.ba tb 0,.int .i64 j,.int .i64 aO] (A++(tb,gh g R (.sl 1 nq ((pre++k::ks).map mI)))::(B++h2))
   (fun v H'=>v=bW g j aO/\∃ ud,fk g (at_+1) ks ud/\H'=A++(tb,gh g R (.sl 1 nq ((pre++k::ks).map mI)))::(B++ud)):=by
 rw [List.length_append,List.length_cons] at ea;obtain ⟨m,rfl⟩:∃ m,j=at_+1+m:=⟨j - (at_+1),by omega⟩;obtain ⟨hA,hB,rfl,nA,nB⟩:=hn.split m (by omega);have he:(pre++k::ks.take m)++ks.drop m=pre++k::ks:=(by rw [List.append_assoc,List.cons_append,List.take_append_drop]);have gf:(ks.take m).length=m:=by rw [List.length_take];omega
 have h1:=IH tb R (pre++k::ks.take m) (ks.drop m) nq (.sl 1 nq ((pre++k::ks).map mI)) aO hB (by rw [List.length_append,List.length_cons,gf];omega) (by rw [he,List.length_append,List.length_cons];omega) (.inr (by rw [he])) nB hr;refine aw.re h1 (h2:=A++(B++hA)) ?_ ?_
 ·have p1:((tb,gh g R (.sl 1 nq ((pre++k::ks).map mI)))::hB++(A++(B++hA))).Perm ((tb,gh g R (.sl 1 nq ((pre++k::ks).map mI)))::(A++(B++(hA++hB)))):=by
   exact List.Perm.cons _ IL
  exact p1.trans List.perm_middle.symm
 rintro v h3 ⟨rfl,aX,jm,rfl⟩;refine ⟨_,?_,rfl,hA++aX,?_,rfl⟩
 ·have p1:((tb,gh g R (.sl 1 nq ((pre++k::ks).map mI)))::aX++(A++(B++hA))).Perm ((tb,gh g R (.sl 1 nq ((pre++k::ks).map mI)))::(A++(B++(hA++aX)))):=by
   exact List.Perm.cons _ IL
  exact p1.trans List.perm_middle.symm
 have:=fk.join nA (by rw [gf];exact jm);rwa [List.take_append_drop] at this
theorem oO {x:Wy} {Q:List Wy} (hs:Q.Pairwise dy) {nk:Nat} {fv:AV} {due:Bool} {ov:AV} {oh:af} (ho:fj Q ov oh) (hl:Q.length<=65536) (A B C:af) :
  aw Tryz.prog 113 [.ba nk 1,.agg (al x)] (A++(nk,.vec (cm fv ov due))::(B++(oh++C)))
   (fun v H'=>v=.aB []/\∃ iH iI,fj (iF x Q) iH iI/\H'=A++(nk,.vec (cm fv iH due))::(B++(iI++C))):=by
 have key:∀ (o:Nat × Ob) (oh:af),(o::oh++(A++(B++C))).Perm (A++o::(B++(oh++C))):=by intro o oh;refine List.Perm.trans ?_ List.perm_middle.symm;exact List.Perm.cons _ NX
 refine aw.re (nP x Q hs nk fv due ov oh ho hl) (key _ _) ?_;rintro v h3 ⟨rfl,iH,iI,bF,rfl⟩;exact ⟨_,key _ _,rfl,iH,iI,bF,rfl⟩
def c114:av:=⟨[0,1,2,6,7,8,9,10,11,12,22,39,43,83,105],[],[9,10,11],[],[(7,[0,1,2,3,4,5,6,7,8,9,10,11,12,13],[9]),(8,[0,1,2,3,4,5,6,7,8,9,10,11,12,13,14,15],[10]),(11,[0,1,2,3,4,5,6,7,8,9,10,11,12,13,14],[]),(14,[0,1,2,3,4,5,6,7,8,9,10,11,12,13,14,15,16],[])],[98]⟩
set_option maxHeartbeats 2000000 in
theorem rI (g:List (List ar)) (hg:fJ g) (at_:Nat) (cK:at_<=g.length) (IH:∀ j,at_<j->j<=g.length->kS g j):kS g at_:=by
 intro tb R pre ks nq nv aO hp cM ea Cy hN hr;have NY:=hg.bB;refine aw.post (R:=fun v h'=>v=bW g at_ aO/\∃ aX,fk g at_ ks aX/\∃ rb o,h'.Perm ((rb,o)::(tb,gh g R nv)::aX)) ?_ ?_
 ·by_cases he:at_=g.length
  ·have lZ:dp g at_=[sR]:=by unfold dp;rw [he,List.getElem?_eq_none (Nat.le_refl _)];rfl
   refine aA (F:=Tryz.f114) c114 rfl rfl rfl mixed rfl fun X=>?_;(conv=>whnf);repeat ((first|refine ⟨_,_,.tail _ (.head _),rfl,?_⟩|intro (nb:Nat));conv=>whnf)
   refine cT (by simp;omega) ?_;(conv=>whnf);repeat ((first|refine ⟨_,_,.head _,rfl,?_⟩|refine ⟨_,_,.here _,aI,?_⟩);conv=>whnf)
   refine ⟨?_,hp,hN,nb,_,.refl _⟩;unfold bW;rw [lZ];cases aO with
   | zero=>rfl
   | succ r=>rfl
  have Cz:at_<g.length:=(by omega);obtain ⟨es,bp⟩:=aF Cz;have hE:=hg.aR at_ es bp;have lZ:dp g at_=aW (dE g es):=by unfold dp;rw [bp]
  have lD:yK g at_=dE g es:=by unfold yK;rw [List.getD_eq_getElem?_getD,bp];rfl
  cases hN with
  | nil=>rw [List.append_nil] at ea;omega
  | cons gO dN=>
  rename_i k ks h1 h2
  have UP:nv=.sl 1 nq ((pre++k::ks).map mI):=by
   rcases Cy with h|h
   ·rw [h] at Cz;simp at Cz
   exact h
  subst UP;have Q3:(pre++k::ks)[at_]?=some k:=by rw [<- cM];simp
  unfold uc at gO;rw [lD] at gO;obtain ⟨t0,IM,Q0,IP,IQ,Ay,Az,yw,CA,CB,rfl⟩:=gO;refine aA (F:=Tryz.f114) c114 rfl rfl rfl mixed rfl fun X=>?_;(conv=>whnf);repeat ((first|refine ⟨_,_,.tail _ (.head _),rfl,?_⟩|intro (nb:Nat));conv=>whnf)
  refine cF (by simp;omega) ?_;(conv=>whnf);repeat ((first|refine ix (by assumption) ?_|refine ⟨_,_,.tail _ (.head _),rfl,?_⟩);conv=>whnf)
  refine bD rfl mixed [0,1,2,6,8] [] (fun m r h=>∃ (t:Nat) (due:Bool) (Q:List Wy) (fv:AV) (fh:af) (ov:AV) (oh h2:af) (rb:Nat),r=[(0,[],.ba tb 0),(1,[],.int .i64 at_),(2,[],.int .i64 aO),(6,[],.ba rb 0),(8,[],.ba k 0)]/\h=(rb,.vec (al sR))::(tb,gh g R (.sl 1 nq ((pre++k::ks).map mI)))::(k,.vec (cm fv ov due))::(fh++(oh++h2))/\m=66 - t/\rH (dE g es) t due Q/\Out 3 al ((aW (dE g es)).take t) fv fh/\fj Q ov oh/\fk g (at_+1) ks h2) ?_ ?_
  ·(conv=>whnf);refine ⟨_,_,ah.refl _ _,_,t0,IM,Q0,IP,IQ,Ay,Az,h2,nb,rfl,?_,rfl,yw,CA,CB,dN⟩;rw [List.cons_append,List.append_assoc];rfl
  clear yw CA CB dN;rintro m r h' ⟨t,due,Q,fv,fh,ov,oh,h2,rb,rfl,rfl,rfl,aV,jG,dB,dN⟩;have gf:=aV.ok.le;have rJ:=jG;have hlen:((aW (dE g es)).take t).length=t:=by rw [List.length_take];omega
  have fu:(((aW (dE g es)).take t).map al).length=t:=by rw [List.length_map];exact hlen
  have UQ:=aV.asked;rcases jG with ⟨hF,rfl,rfl⟩|⟨q,rfl,rfl⟩
  ·have IS:t=0:=by rw [hF] at hlen;exact hlen.symm
   have IT:due=false:=by
    cases due with
    | false=>rfl
    | true=>have:=aV.ok.pos rfl;omega
   subst IT;have nS:t<=aO:=(by omega);(conv=>whnf);repeat ((refine ⟨_,_,.tail _ (.tail _ (.head _)),rfl,?_⟩);conv=>whnf)
   refine cT (by simp) ?_;(conv=>whnf);repeat ((refine ⟨_,_,.tail _ (.tail _ (.head _)),rfl,?_⟩);conv=>whnf)
   refine cF rfl ?_;cases hQ:Q with
   | nil=>
     subst hQ;have dI:bW g at_ aO=.aB [.agg (al sR),.bool false]:=by unfold bW;rw [lZ,vh aV.ok.empty nS]
     have yL:=dB;rcases dB with ⟨_,rfl,rfl⟩|⟨ob,pr,rfl,rfl⟩
     all_goals
      (conv=>whnf);repeat ((refine ⟨_,_,.tail _ (.tail _ (.head _)),rfl,?_⟩);conv=>whnf)
      refine cT rfl ?_;(conv=>whnf);repeat ((first|(refine ⟨_,_,.here _,aI,?_⟩)|refine ⟨_,_,.head _,rfl,?_⟩);conv=>whnf)
      refine ⟨dI.symm,_,.cons ⟨t,false,[],_,_,_,_,by rw [lD];exact aV,by rw [lD];exact rJ,yL,rfl⟩ dN,rb,_,by first|exact Cw|exact .refl _|(refine List.Perm.of_eq ?_;simp)⟩
   | cons x Q'=>
     rcases dB with ⟨h0,rfl,rfl⟩|⟨ob,pr,rfl,rfl⟩
     ·rw [hQ] at h0;cases h0
     subst hQ;obtain ⟨hx,fM⟩:=aV.ok.pop;have cd:=take_one hx;have dG:=aV.bB;have vj:(x::Q').length=Q'.length+1:=rfl;have wO:((aW (dE g es)).take t).length<=65:=(by omega);(conv=>whnf);repeat ((refine ⟨_,_,.tail _ (.tail _ (.head _)),rfl,?_⟩);conv=>whnf)
     refine cF (decide_eq_false (by omega)) ?_;(conv=>whnf);repeat ((first|(refine ⟨_,_,.tail _ (.tail _ (.head _)),rfl,?_⟩)|(refine ⟨0,ag ⟨rfl,by omega⟩,?_⟩)|(refine oN (i:=0) dA (.tail _ (.tail _ (.tail _ (.head _)))) rfl rfl ?_)|refine And.intro (by show aJ (aH Tryz.f114 _) _=true;decide +kernel) ?_);conv=>whnf)
     first|refine ⟨Nat.le_of_ble_eq_true rfl,fun q'=>?_⟩|refine ⟨(by simp;unfold aN;omega),fun q'=>⟨_,.there (.there (.there (.here _))),?_⟩⟩
     (conv=>whnf);repeat ((first|refine ⟨ag ⟨by omega,by omega⟩,?_⟩|(refine ⟨_,_,.there (.there (.there (.here _))),aI,?_⟩)|(refine ⟨_,_,.tail _ (.tail _ (.tail _ (.head _))),rfl,?_⟩));conv=>whnf)
     have e1:pr.length+Int.toNat 1*3=(pr++al x).length:=by rw [List.length_append];rfl
     have e2:(((x::Q').length:Nat):Int).toNat - Int.toNat 1=Q'.length:=by rw [Int.toNat_natCast];rfl
     have e3:pr++((x::Q').map al).flatten=(pr++al x)++(Q'.map al).flatten:=(by simp);have im:Q'.length+(if true=true then 1 else 0)<=2000:=by simp at dG ⊢;omega
     rw [e1,e2,e3]
     first
      | exact ⟨_,_,ah.refl _ _,_,(by omega),t+1,true,Q',_,[(q',.tok)],_,[(ob,_)],h2,rb,rfl,rfl,rfl,⟨fM,im,by omega⟩,.inr ⟨q',by rw [cd,List.map_append];rfl,rfl⟩,.inr ⟨ob,pr++al x,rfl,rfl⟩,dN⟩
      | exact ⟨_,_,ah.perm (List.perm_middle (l₁:=[_,_,_])).symm,_,(by omega),t+1,true,Q',_,[(q',.tok)],_,[(ob,_)],h2,rb,rfl,rfl,rfl,⟨fM,im,by omega⟩,.inr ⟨q',by rw [cd,hF];rfl,rfl⟩,.inr ⟨ob,pr++al x,rfl,rfl⟩,dN⟩
  (conv=>whnf);repeat ((refine ⟨_,_,.tail _ (.tail _ (.head _)),rfl,?_⟩);conv=>whnf)
  refine ⟨fun hz=>?_,fun hz=>?_⟩<;>simp at hz
  ·have nS:t<=aO:=(by omega);cases due with
   | false=>
     (conv=>whnf);repeat ((refine ⟨_,_,.tail _ (.tail _ (.head _)),rfl,?_⟩);conv=>whnf)
     refine cF rfl ?_;cases hQ:Q with
     | nil=>
       subst hQ;have dI:bW g at_ aO=.aB [.agg (al sR),.bool false]:=by unfold bW;rw [lZ,vh aV.ok.empty nS]
       have yL:=dB;rcases dB with ⟨_,rfl,rfl⟩|⟨ob,pr,rfl,rfl⟩
       all_goals
        (conv=>whnf);repeat ((refine ⟨_,_,.tail _ (.tail _ (.head _)),rfl,?_⟩);conv=>whnf)
        refine cT rfl ?_;(conv=>whnf);repeat ((first|(refine ⟨_,_,.here _,aI,?_⟩)|refine ⟨_,_,.head _,rfl,?_⟩);conv=>whnf)
        refine ⟨dI.symm,_,.cons ⟨t,false,[],_,_,_,_,by rw [lD];exact aV,by rw [lD];exact rJ,yL,rfl⟩ dN,rb,_,by first|exact Cw|exact .refl _|(refine List.Perm.of_eq ?_;simp)⟩
     | cons x Q'=>
       rcases dB with ⟨h0,rfl,rfl⟩|⟨ob,pr,rfl,rfl⟩
       ·rw [hQ] at h0;cases h0
       subst hQ;obtain ⟨hx,fM⟩:=aV.ok.pop;have cd:=take_one hx;have dG:=aV.bB;have vj:(x::Q').length=Q'.length+1:=rfl;have wO:((aW (dE g es)).take t).length<=65:=(by omega);(conv=>whnf);repeat ((refine ⟨_,_,.tail _ (.tail _ (.head _)),rfl,?_⟩);conv=>whnf)
       refine cF (decide_eq_false (by omega)) ?_;(conv=>whnf);repeat ((first|(refine ⟨_,_,.tail _ (.tail _ (.head _)),rfl,?_⟩)|(refine ⟨0,ag ⟨rfl,by omega⟩,?_⟩)|(refine oN (i:=0) dA (.tail _ (.tail _ (.tail _ (.tail _ (.head _))))) rfl rfl ?_)|refine And.intro (by show aJ (aH Tryz.f114 _) _=true;decide +kernel) ?_);conv=>whnf)
       first|refine ⟨Nat.le_of_ble_eq_true rfl,fun q'=>?_⟩|refine ⟨(by simp;unfold aN;omega),fun q'=>⟨_,.there (.there (.there (.here _))),?_⟩⟩
       (conv=>whnf);repeat ((first|refine ⟨ag ⟨by omega,by omega⟩,?_⟩|(refine ⟨_,_,.there (.there (.here _)),aI,?_⟩)|(refine ⟨_,_,.tail _ (.tail _ (.head _)),rfl,?_⟩));conv=>whnf)
       have e1:pr.length+Int.toNat 1*3=(pr++al x).length:=by rw [List.length_append];rfl
       have e2:(((x::Q').length:Nat):Int).toNat - Int.toNat 1=Q'.length:=by rw [Int.toNat_natCast];rfl
       have e3:pr++((x::Q').map al).flatten=(pr++al x)++(Q'.map al).flatten:=(by simp);have im:Q'.length+(if true=true then 1 else 0)<=2000:=by simp at dG ⊢;omega
       rw [e1,e2,e3]
       first
        | exact ⟨_,_,ah.refl _ _,_,(by omega),t+1,true,Q',_,[(q',.tok)],_,[(ob,_)],h2,rb,rfl,rfl,rfl,⟨fM,im,by omega⟩,.inr ⟨q',by rw [cd,List.map_append];rfl,rfl⟩,.inr ⟨ob,pr++al x,rfl,rfl⟩,dN⟩
        | exact ⟨_,_,ah.perm (List.perm_middle (l₁:=[_,_,_])).symm,_,(by omega),t+1,true,Q',_,[(q',.tok)],_,[(ob,_)],h2,rb,rfl,rfl,rfl,⟨fM,im,by omega⟩,.inr ⟨q',by rw [cd,hF];rfl,rfl⟩,.inr ⟨ob,pr++al x,rfl,rfl⟩,dN⟩
   | true=>
     obtain ⟨y,hy⟩:=aV.ok.last;have UR:=aV.ok.pos rfl;have Cm:=Ck hy;have Fw:((aW (dE g es)).take t)[t - 1]?=some y:=by rw [List.getElem?_take_of_lt (by omega)];exact hy
     obtain ⟨_,cl,bq,bJ⟩:=mG hy;obtain ⟨xe,jL⟩:=aF (l:=es) (i:=y.aR) (by have:=(List.getElem?_eq_some_iff.1 bq).1;rw [Ct] at this;exact this);have jn:=hE xe (List.mem_of_getElem? jL);(conv=>whnf);repeat ((refine ⟨_,_,.tail _ (.tail _ (.head _)),rfl,?_⟩);conv=>whnf)
     refine cT rfl ?_;(conv=>whnf);repeat ((first|refine ⟨ag ⟨by omega,by omega⟩,?_⟩|refine ix (by assumption) ?_|(refine ⟨_,_,.there (.there (.here _)),aI,?_⟩)|(refine ⟨_,_,.tail _ (.tail _ (.head _)),rfl,?_⟩)|(refine cp (t - 1) (by omega) Fw ?_)|refine ⟨_,_,bj.here _,?_⟩|refine ⟨_,_,.tail _ (.head _),rfl,?_⟩|refine ⟨_,_,.here _,aI,?_⟩|refine And.intro (by show aJ (aH Tryz.f114 _) _=true;decide +kernel) ?_|intro (nb:Nat));conv=>whnf)
     have IU:=jn.lo;have IV:=jn.hi;have CC:=jn.cost;have jl:((xe.to.toNat:Nat):Int)=xe.to:=Int.toNat_of_nonneg (by omega);have pC:=qB (IH xe.to.toNat (by omega) (by omega)) (by omega) (by omega) (tb:=tb) (R:=R) (nq:=nq) cM ea (aO:=y.aO+1) (by omega) dN [(rb,.vec (al sR))] ((k,.vec (cm (.sl 3 (some q) (((aW (dE g es)).take t).map al)) ov false))::(q,.tok)::oh);rw [jl] at pC;obtain ⟨l,kj,cX⟩:=yJ hg bp jL;have pD:=cX (y.aO+1);have dG:=aV.bB;have US:Q.length+1<=2000:=(by simpa using dG);refine aw.mono ?_ pC;clear dN;rintro v h1 ⟨rfl,h2,dN,rfl⟩;cases hw:(dp g xe.to.toNat)[y.aO+1]? with
     | none=>
       have dI:bW g xe.to.toNat (y.aO+1)=.aB [.agg (al sR),.bool false]:=by unfold bW;rw [hw]
       rw [hw] at pD;rw [dI];have aV:rH (dE g es) t false Q:=⟨aV.ok.skip hy kj pD,by simp;omega,aV.asked⟩;(conv=>whnf);repeat ((first|refine ⟨_,_,bj.here _,⟨Nat.le_of_ble_eq_true rfl,rfl⟩,?_⟩|intro (nb:Nat));conv=>whnf)
       refine cF rfl ?_;cases hQ:Q with
       | nil=>
         subst hQ;have dI:bW g at_ aO=.aB [.agg (al sR),.bool false]:=by unfold bW;rw [lZ,vh aV.ok.empty nS]
         have yL:=dB;rcases dB with ⟨_,rfl,rfl⟩|⟨ob,pr,rfl,rfl⟩
         all_goals
          (conv=>whnf);repeat ((refine ⟨_,_,.tail _ (.tail _ (.head _)),rfl,?_⟩);conv=>whnf)
          refine cT rfl ?_;(conv=>whnf);repeat ((first|(refine ⟨_,_,.here _,aI,?_⟩)|refine ⟨_,_,.head _,rfl,?_⟩);conv=>whnf)
          refine ⟨dI.symm,_,.cons ⟨t,false,[],_,_,_,_,by rw [lD];exact aV,by rw [lD];exact rJ,yL,rfl⟩ dN,rb,_,by first|exact Cw|exact .refl _|(refine List.Perm.of_eq ?_;simp)⟩
       | cons x Q'=>
         rcases dB with ⟨h0,rfl,rfl⟩|⟨ob,pr,rfl,rfl⟩
         ·rw [hQ] at h0;cases h0
         subst hQ;obtain ⟨hx,fM⟩:=aV.ok.pop;have cd:=take_one hx;have dG:=aV.bB;have vj:(x::Q').length=Q'.length+1:=rfl;have wO:((aW (dE g es)).take t).length<=65:=(by omega);(conv=>whnf);repeat ((refine ⟨_,_,.tail _ (.tail _ (.head _)),rfl,?_⟩);conv=>whnf)
         refine cF (decide_eq_false (by omega)) ?_;(conv=>whnf);repeat ((first|(refine ⟨_,_,.tail _ (.tail _ (.head _)),rfl,?_⟩)|(refine ⟨0,ag ⟨rfl,by omega⟩,?_⟩)|(refine oN (i:=0) dA (.tail _ (.tail _ (.tail _ (.tail _ (.head _))))) rfl rfl ?_)|refine And.intro (by show aJ (aH Tryz.f114 _) _=true;decide +kernel) ?_);conv=>whnf)
         first|refine ⟨Nat.le_of_ble_eq_true rfl,fun q'=>?_⟩|refine ⟨(by simp;unfold aN;omega),fun q'=>⟨_,.there (.there (.there (.here _))),?_⟩⟩
         (conv=>whnf);repeat ((first|refine ⟨ag ⟨by omega,by omega⟩,?_⟩|(refine ⟨_,_,.there (.there (.here _)),aI,?_⟩)|(refine ⟨_,_,.tail _ (.tail _ (.head _)),rfl,?_⟩));conv=>whnf)
         have e1:pr.length+Int.toNat 1*3=(pr++al x).length:=by rw [List.length_append];rfl
         have e2:(((x::Q').length:Nat):Int).toNat - Int.toNat 1=Q'.length:=by rw [Int.toNat_natCast];rfl
         have e3:pr++((x::Q').map al).flatten=(pr++al x)++(Q'.map al).flatten:=(by simp);have im:Q'.length+(if true=true then 1 else 0)<=2000:=by simp at dG ⊢;omega
         rw [e1,e2,e3]
         first
          | exact ⟨_,_,ah.refl _ _,_,(by omega),t+1,true,Q',_,[(q',.tok)],_,[(ob,_)],h2,rb,rfl,rfl,rfl,⟨fM,im,by omega⟩,.inr ⟨q',by rw [cd,List.map_append];rfl,rfl⟩,.inr ⟨ob,pr++al x,rfl,rfl⟩,dN⟩
          | exact ⟨_,_,ah.perm (List.perm_middle (l₁:=[_,_,_])).symm,_,(by omega),t+1,true,Q',_,[(q',.tok)],_,[(ob,_)],h2,rb,rfl,rfl,rfl,⟨fM,im,by omega⟩,.inr ⟨q',by rw [cd,hF];rfl,rfl⟩,.inr ⟨ob,pr++al x,rfl,rfl⟩,dN⟩
     | some w=>
       have dI:bW g xe.to.toNat (y.aO+1)=.aB [.agg (al w),.bool true]:=by unfold bW;rw [hw]
       rw [hw] at pD;have CD:=Aw hg (i:=xe.to.toNat) (by omega) w (List.mem_of_getElem? hw);rw [dI];(conv=>whnf);repeat ((first|refine ⟨_,_,bj.here _,⟨Nat.le_of_ble_eq_true rfl,rfl⟩,?_⟩|intro (nb:Nat));conv=>whnf)
       refine cT rfl ?_;(conv=>whnf);repeat ((first|refine ⟨ag ⟨by omega,by omega⟩,?_⟩|refine And.intro (by show aJ (aH Tryz.f114 _) _=true;decide +kernel) ?_);conv=>whnf)
       refine aw.mono ?_ (oO (x:=⟨xe.cost+w.cost,y.aR,y.aO+1⟩) aV.ok.sorted (nk:=k) (fv:=.sl 3 (some q) (((aW (dE g es)).take t).map al)) (due:=false) dB (by omega) [(rb,.vec (al sR)),(tb,gh g R (.sl 1 nq ((pre++k::ks).map mI)))] [(q,.tok)] h2);have fM:rH (dE g es) t false (iF ⟨xe.cost+w.cost,y.aR,y.aO+1⟩ Q):=⟨aV.ok.push hy kj pD,by rw [wL];simp;omega,aV.asked⟩;clear aV dB;rintro v h1 ⟨rfl,ov,oh,dB,rfl⟩;obtain ⟨Q,IW⟩:∃ Q',Q'=iF ⟨xe.cost+w.cost,y.aR,y.aO+1⟩ Q:=⟨_,rfl⟩;rw [<- IW] at dB fM;have aV:=fM;(conv=>whnf);repeat ((refine ⟨_,_,.tail _ (.tail _ (.head _)),rfl,?_⟩);conv=>whnf)
       cases hQ:Q with
       | nil=>
         subst hQ;have dI:bW g at_ aO=.aB [.agg (al sR),.bool false]:=by unfold bW;rw [lZ,vh aV.ok.empty nS]
         have yL:=dB;rcases dB with ⟨_,rfl,rfl⟩|⟨ob,pr,rfl,rfl⟩
         all_goals
          (conv=>whnf);skip;refine cT rfl ?_;(conv=>whnf);repeat ((first|(refine ⟨_,_,.here _,aI,?_⟩)|refine ⟨_,_,.head _,rfl,?_⟩);conv=>whnf)
          refine ⟨dI.symm,_,.cons ⟨t,false,[],_,_,_,_,by rw [lD];exact aV,by rw [lD];exact rJ,yL,rfl⟩ dN,rb,_,by first|exact Cw|exact .refl _|(refine List.Perm.of_eq ?_;simp)⟩
       | cons x Q'=>
         rcases dB with ⟨h0,rfl,rfl⟩|⟨ob,pr,rfl,rfl⟩
         ·rw [hQ] at h0;cases h0
         subst hQ;obtain ⟨hx,fM⟩:=aV.ok.pop;have cd:=take_one hx;have dG:=aV.bB;have vj:(x::Q').length=Q'.length+1:=rfl;have wO:((aW (dE g es)).take t).length<=65:=(by omega);(conv=>whnf);skip;refine cF (decide_eq_false (by omega)) ?_;(conv=>whnf);repeat ((first|(refine ⟨_,_,.tail _ (.tail _ (.head _)),rfl,?_⟩)|(refine ⟨0,ag ⟨rfl,by omega⟩,?_⟩)|(refine oN (i:=0) dA (.tail _ (.tail _ (.tail _ (.tail _ (.head _))))) rfl rfl ?_)|refine And.intro (by show aJ (aH Tryz.f114 _) _=true;decide +kernel) ?_);conv=>whnf)
         first|refine ⟨Nat.le_of_ble_eq_true rfl,fun q'=>?_⟩|refine ⟨(by simp;unfold aN;omega),fun q'=>⟨_,.there (.there (.there (.here _))),?_⟩⟩
         (conv=>whnf);repeat ((first|refine ⟨ag ⟨by omega,by omega⟩,?_⟩|(refine ⟨_,_,.there (.there (.here _)),aI,?_⟩)|(refine ⟨_,_,.tail _ (.tail _ (.head _)),rfl,?_⟩));conv=>whnf)
         have e1:pr.length+Int.toNat 1*3=(pr++al x).length:=by rw [List.length_append];rfl
         have e2:(((x::Q').length:Nat):Int).toNat - Int.toNat 1=Q'.length:=by rw [Int.toNat_natCast];rfl
         have e3:pr++((x::Q').map al).flatten=(pr++al x)++(Q'.map al).flatten:=(by simp);have im:Q'.length+(if true=true then 1 else 0)<=2000:=by simp at dG ⊢;omega
         rw [e1,e2,e3]
         first
          | exact ⟨_,_,ah.refl _ _,_,(by omega),t+1,true,Q',_,[(q',.tok)],_,[(ob,_)],h2,rb,rfl,rfl,rfl,⟨fM,im,by omega⟩,.inr ⟨q',by rw [cd,List.map_append];rfl,rfl⟩,.inr ⟨ob,pr++al x,rfl,rfl⟩,dN⟩
          | exact ⟨_,_,ah.perm (List.perm_middle (l₁:=[_,_,_])).symm,_,(by omega),t+1,true,Q',_,[(q',.tok)],_,[(ob,_)],h2,rb,rfl,rfl,rfl,⟨fM,im,by omega⟩,.inr ⟨q',by rw [cd,hF];rfl,rfl⟩,.inr ⟨ob,pr++al x,rfl,rfl⟩,dN⟩
  obtain ⟨w,hw⟩:=aF (l:=(aW (dE g es)).take t) (i:=aO) (by omega);have oP:=hw;rw [List.getElem?_take_of_lt (by omega)] at oP;(conv=>whnf);repeat ((first|refine ix (by assumption) ?_|(refine ⟨_,_,.tail _ (.tail _ (.head _)),rfl,?_⟩)|(refine ⟨_,_,.here _,aI,?_⟩)|refine ⟨_,_,.head _,rfl,?_⟩);conv=>whnf)
  refine ⟨?_,_,.cons ⟨t,due,Q,_,_,_,_,by rw [lD];exact aV,by rw [lD];exact rJ,dB,rfl⟩ dN,rb,_,Cw⟩;unfold bW;rw [lZ,oP];rfl
 rintro v h1 ⟨hv,aX,jm,rb,o,eS⟩;refine ⟨v,_,⟨hv,aX,jm,rfl⟩,aa.refl _,fun k o hm=>eS.mem_iff.2 (List.mem_cons_of_mem _ hm),fun hn=>?_⟩;have:=((eS.map (fun p:Nat × Ob=>p.1)).nodup_iff).1 hn;exact (List.nodup_cons.1 this).2
theorem getAll (g:List (List ar)) (hg:fJ g):∀ (d j:Nat),j+d=g.length->kS g j:=by
 intro d;induction d using Nat.strongRecOn with
 | _ d ih=>exact fun j hj=>rI g hg j (by omega) fun i h1 h2=>ih (g.length - i) (by omega) i (by omega)
end Go.Abs.Wall.Lst
namespace Go.Abs.Wall.Lst
open Go Go.Abs Go.Proofs Go.Abs.Wall
theorem UT (g:List (List ar)) (i:Nat) (k:Nat) (Q:List Wy) (ov:AV) (oh:af) (hq:ub (yK g i) (yK g i).length Q) (hl:Q.length<=2000) (ho:fj Q ov oh):fk g i [k] ((k,.vec (cm .aS ov false))::oh):=by have:=fk.cons (g:=g) (i:=i) (k:=k) (ks:=[]) (h1:=(k,.vec (cm .aS ov false))::([]++oh)) (h2:=[]) ⟨0,false,Q,.aS,[],ov,oh,⟨Iy hq,by simpa using hl,by omega⟩,.inl ⟨by simp,rfl,rfl⟩,ho,rfl⟩ (.nil _);simpa using this
def c66:av:=⟨[0,2,3,4,5,6,7,8,16,17,18,29,30,31,32,45],[11,22],[7],[],[(9,[0,1,2,3,4,5,6,7,8],[]),(11,[0,1,2,3,4,5,6,7,8,9],[])],[55]⟩
theorem IX (g:List (List ar)) (hg:fJ g):aw Tryz.prog 66 [.ai (Ax g (dV g))] [] (fun v h'=>∃ tb ks nq nv hp,v=.ba tb 0/\ks.length=g.length/\(g=[]\/nv=.sl 1 nq (ks.map mI))/\fk g 0 ks hp/\h'=(tb,gh g (dV g) nv)::hp):=by
 have NY:=hg.bB;refine aw.post (R:=fun v h'=>∃ tb ks nv nh hp,v=.ba tb 0/\ks.length=g.length/\Out 1 mI ks nv nh/\fk g 0 ks hp/\h'=(tb,gh g (dV g) nv)::(nh++hp)) ?_ ?_
 ·refine aA (F:=Tryz.f66) c66 rfl rfl rfl mixed rfl fun X=>?_;(conv=>whnf);repeat (intro (nb:Nat);conv=>whnf)
  refine bD rfl mixed [0,3,16,17] [] (fun m r h=>∃ (tb i:Nat) (ks:List Nat) (nv:AV) (nh hp:af),r=[(0,[],.ai (Ax g (dV g))),(3,[],.ba tb 0),(16,[],.int .i64 g.length),(17,[],.int .i64 i)]/\h=(tb,gh g (dV g) nv)::(nh++hp)/\m=g.length - i/\i<=g.length/\ks.length=i/\Out 1 mI ks nv nh/\fk g 0 ks hp) ?_ ?_
  ·(conv=>whnf);exact ⟨_,_,ah.refl _ _,_,nb,0,[],.aS,[],[],by rw [List.length_map];rfl,rfl,rfl,by omega,rfl,.inl ⟨rfl,rfl,rfl⟩,.nil _⟩
  rintro m r h' ⟨tb,i,ks,nv,nh,hp,rfl,rfl,rfl,hi,ea,pE,hN⟩;(conv=>whnf);refine ⟨fun hz=>?_,fun hz=>?_⟩<;>simp at hz
  ·obtain ⟨es,bp⟩:=aF (l:=g) (i:=i) hz;have hE:=hg.aR i es bp;have lD:yK g i=dE g es:=by unfold yK;rw [List.getD_eq_getElem?_getD,bp];rfl
   have UU:=hg.many i es bp;(conv=>whnf);repeat ((first|refine ix (by assumption) ?_|intro (nb:Nat));conv=>whnf)
   refine bD rfl mixed [0,3,5,16,17,29,30,31] [] (fun m r h=>∃ (j:Nat) (Q:List Wy) (ov:AV) (oh:af) (k:Nat),r=[(0,[],.ai (Ax g (dV g))),(3,[],.ba tb 0),(5,[],.ba k 0),(16,[],.int .i64 g.length),(17,[],.int .i64 i),(29,[],.sl 7 none (es.map bZ)),(30,[],.int .i64 (es.map bZ).length),(31,[],.int .i64 j)]/\h=(tb,gh g (dV g) nv)::(k,.vec (cm .aS ov false))::(nh++(oh++hp))/\m=es.length - j/\j<=es.length/\ub (dE g es) j Q/\Q.length<=j/\fj Q ov oh) ?_ ?_
   ·(conv=>whnf);exact ⟨_,_,ah.perm (List.Perm.swap _ _ _),_,0,[],.aS,[],nb,rfl,rfl,rfl,by omega,Ix _,by simp,.inl ⟨rfl,rfl,rfl⟩⟩
   rintro m r h' ⟨j,Q,ov,oh,k,rfl,rfl,rfl,hj,sS,NZ,dB⟩;(conv=>whnf);refine ⟨fun cx=>?_,fun cx=>?_⟩<;>simp at cx
   ·obtain ⟨x,hx⟩:=aF (l:=es) (i:=j) cx;have jn:=hE x (List.mem_of_getElem? hx);have IU:=jn.lo;have IV:=jn.hi;have CC:=jn.cost;have jl:x.to=((x.to.toNat:Nat):Int):=(Int.toNat_of_nonneg (by omega)).symm;have UW:=yD g x.to.toNat (by omega);have AA:=Cu hg (g.length - x.to.toNat) x.to.toNat (by omega);obtain ⟨l,kj,cX⟩:=yJ hg bp hx;have pD:=cX 0;(conv=>whnf);repeat ((first|refine ix (by assumption) ?_|(refine cp x.to.toNat jl UW ?_)|refine ⟨_,_,bj.here _,⟨Nat.le_of_ble_eq_true rfl,rfl⟩,?_⟩|refine And.intro (by show aJ (aH Tryz.f66 _) _=true;decide +kernel) ?_|intro (nb:Nat));conv=>whnf)
    cases hw:(dp g x.to.toNat)[0]? with
    | none=>
      rw [hw] at AA pD;rw [AA];refine cF rfl ?_;(conv=>whnf);repeat (refine ⟨ag ⟨by omega,by omega⟩,?_⟩;conv=>whnf)
      exact ⟨_,_,ah.refl _ _,_,(by omega),j+1,Q,ov,oh,k,rfl,rfl,rfl,by omega,Fp sS kj pD,by omega,dB⟩
    | some w=>
      rw [hw] at AA pD;have CD:=Aw hg (i:=x.to.toNat) (by omega) w (List.mem_of_getElem? hw);have AA:eE g x.to.toNat=w.cost:=AA;rw [AA];refine cT (by simp;omega) ?_;(conv=>whnf);repeat ((first|refine ⟨ag ⟨by omega,by omega⟩,?_⟩|refine And.intro (by show aJ (aH Tryz.f66 _) _=true;decide +kernel) ?_);conv=>whnf)
      refine aw.mono ?_ (oO (x:=⟨x.cost+w.cost,j,0⟩) sS.1 (nk:=k) (fv:=.aS) (due:=false) dB (by omega) [(tb,gh g (dV g) nv)] nh hp);clear dB;rintro v h1 ⟨rfl,ov,oh,dB,rfl⟩;(conv=>whnf);repeat (refine ⟨ag ⟨by omega,by omega⟩,?_⟩;conv=>whnf)
      exact ⟨_,_,ah.refl _ _,_,(by omega),j+1,_,ov,oh,k,rfl,rfl,rfl,by omega,Fq sS kj pD,by rw [wL];omega,dB⟩
   have vk:j=es.length:=(by omega);subst vk;have UX:fk g i [k] ((k,.vec (cm .aS ov false))::oh):=UT g i k Q ov oh (by rw [lD,Ct];exact sS) (by omega) dB;have Oa:=hN.join (by rw [ea,Nat.zero_add];exact UX);have fu:(ks.map mI).length=ks.length:=List.length_map _;have yM:∀ (o:Ob) (q:Nat × Ob),((tb,o)::(k,Ob.vec (cm .aS ov false))::q::(oh++hp)).Perm ((tb,o)::([q]++(hp++((k,.vec (cm .aS ov false))::oh)))):=by intro o q;refine List.Perm.cons _ ((List.Perm.swap _ _ _).trans (List.Perm.cons _ ?_));exact List.perm_append_comm (l₁:=(k,Ob.vec (cm .aS ov false))::oh) (l₂:=hp)
   rcases pE with ⟨iJ,rfl,rfl⟩|⟨q0,rfl,rfl⟩
   ·subst iJ;(conv=>whnf);repeat ((first|refine ⟨ag ⟨by omega,by omega⟩,?_⟩|(refine ⟨Nat.le_of_ble_eq_true rfl,fun q=>?_⟩)|refine ⟨_,_,.head _,rfl,?_⟩|refine ⟨_,_,.there (.here _),aI,?_⟩);conv=>whnf)
    exact ⟨_,_,ah.perm ((List.perm_middle (l₁:=[_,_])).symm.trans (yM _ (q,.tok))),_,(by omega),tb,i+1,[k],.sl 1 (some q) [[.ba k 0]],[(q,.tok)],_,rfl,rfl,rfl,by omega,by simp at ea ⊢;omega,.inr ⟨q,rfl,rfl⟩,Oa⟩
   (conv=>whnf);repeat ((first|refine ⟨ag ⟨by omega,by omega⟩,?_⟩|(refine ⟨(by rw [List.length_append,fu];simp;unfold aN;omega),fun q=>⟨_,.there (.there (.here _)),?_⟩⟩)|refine ⟨_,_,.head _,rfl,?_⟩|refine ⟨_,_,.here _,aI,?_⟩);conv=>whnf)
   exact ⟨_,_,ah.perm (yM _ (q,.tok)),_,(by omega),tb,i+1,ks++[k],.sl 1 (some q) (ks.map mI++[[.ba k 0]]),[(q,.tok)],_,rfl,rfl,rfl,by omega,by rw [List.length_append,ea];rfl,.inr ⟨q,by rw [List.map_append];rfl,rfl⟩,Oa⟩
  have:i=g.length:=(by omega);subst this;(conv=>whnf);skip;exact ⟨tb,ks,nv,nh,hp,rfl,ea,pE,hN,rfl⟩
 rintro v h1 ⟨tb,ks,nv,nh,hp,rfl,ea,ho,hN,rfl⟩;refine ⟨.ba tb 0,(tb,gh g (dV g) nv)::hp,?_,aa.refl _,fun k o hm=>?_,fun hn=>?_⟩
 ·rcases ho with ⟨rfl,rfl,rfl⟩|⟨q,rfl,rfl⟩
  ·exact ⟨tb,[],none,.aS,hp,rfl,ea,.inl (List.eq_nil_of_length_eq_zero ea.symm),hN,rfl⟩
  exact ⟨tb,ks,some q,_,hp,rfl,ea,.inr rfl,hN,rfl⟩
 ·rcases List.mem_cons.1 hm with h|h
  ·rw [h];exact List.mem_cons_self
  exact List.mem_cons_of_mem _ (List.mem_append_right _ h)
 unfold keys at hn ⊢;simp only [List.map_cons,List.map_append,List.nodup_cons,List.mem_append,not_or,List.nodup_append] at hn ⊢;exact ⟨hn.1.2,hn.2.2.1⟩
end Go.Abs.Wall.Lst
