/- What is proved: small laws for the walks of this seat, and contracts of its functions. No condition but those each theorem names. -/
import Derived.Test.YtbmcnieifibckaaGreatN14
import Derived.Test.YtbmcnieifibckaaGreatN11
import Derived.Test.YtbmcnieifibckaaGreatN7
set_option maxRecDepth 100000
set_option maxHeartbeats 2000000
set_option linter.unusedVariables false
set_option linter.unusedSimpArgs false
namespace Go.Abs.Wall
open Go Go.Abs Go.Proofs
abbrev lQ:=Int × List av
def lR (x:av) (l:List lQ):List Int:=l.map fun p=>x.cost+p.1
def lf (es:List av) (T:av->List lQ) (w:Wy):lQ:=match es[w.aO]? with
 | none=>(w.cost,[])
 | some x=>(w.cost,x::((T x).getD w.aM (0,[])).2)
def yD (T:List (List lQ)) (x:av):List lQ:=T.getD (x.word.ai.length - 1) []
def sN:List (List av)->List (List lQ)
 | []=>[[(0,[])]]
 | es::g=>((aW (es.map fun x=>lR x (yD (sN g) x))).map (lf es (yD (sN g))))::sN g
def bk (g:List (List av)) (i:Nat):List lQ:=(sN (g.drop i)).headD []
theorem OE:∀ (g:List (List av)) (i:Nat),i<=g.length->(sN g)[i]?=some (bk g i)
 | [],i,h=>by have:i=0:=(by simpa using h);subst this;rfl
 | es::g,0,_=>by simp [sN,bk]
 | es::g,i+1,h=>by have:=OE g i (by simpa using h);simp only [sN,List.getElem?_cons_succ];rw [this];rfl
theorem VU (g:List (List av)) (a i:Nat):bk (g.drop a) i=bk g (a+i):=by unfold bk;rw [List.drop_drop]
theorem wN (g:List (List av)):bk g g.length=[(0,[])]:=by unfold bk;rw [List.drop_length];rfl
theorem OF {g:List (List av)} {i:Nat} {x:av} (hx:FC g.length i x):yD (sN (g.drop (i+1))) x=bk g x.to.toNat:=by have h1:=hx.lo;have h2:=hx.hi;have h3:=hx.to;unfold yD;have h4:=OE (g.drop (i+1)) (x.word.ai.length - 1) (by rw [List.length_drop];omega);rw [VU,show i+1+(x.word.ai.length - 1)=x.to.toNat by omega] at h4;rw [List.getD_eq_getElem?_getD,h4];rfl
def cP (g:List (List av)) (es:List av):List (List Int):=es.map fun x=>lR x (bk g x.to.toNat)
def du (g:List (List av)) (i:Nat):List Wy:=match g[i]? with
 | none=>[⟨0,0,0⟩]
 | some es=>aW (cP g es)
theorem VV {es:List av} {T T':av->List lQ} (h:∀ x∈es,T x=T' x) (w:Wy):lf es T w=lf es T' w:=by
 unfold lf;cases hx:es[w.aO]? with
 | none=>rfl
 | some x=>simp only [h x (List.mem_of_getElem? hx)]
theorem vl {g:List (List av)} {i:Nat} {es:List av} (h:g[i]?=some es) (hx:∀ x∈es,FC g.length i x) :
  bk g i=(aW (cP g es)).map (lf es fun x=>bk g x.to.toNat):=by
 have e1:bk g i=(aW (es.map fun x=>lR x (yD (sN (g.drop (i+1))) x))).map (lf es (yD (sN (g.drop (i+1))))):=by unfold bk;rw [drop_cons h];rfl
 have e2:(es.map fun x=>lR x (yD (sN (g.drop (i+1))) x))=cP g es:=by unfold cP;exact List.map_congr_left fun x hm=>by rw [OF (hx x hm)]
 rw [e1,e2];exact List.map_congr_left fun w _=>VV (fun x hm=>OF (hx x hm)) w
theorem Jj {es:List av} {T:av->List lQ} {w:Wy}:(lf es T w).1=w.cost:=by unfold lf;cases es[w.aO]?<;>rfl
theorem yE {g:List (List av)} (hg:fX g) {i:Nat} (hi:i<=g.length) (r:Nat):((bk g i)[r]?).map (·.1)=((du g i)[r]?).map (·.cost):=by
 by_cases h:i<g.length
 ·obtain ⟨es,bc⟩:=aL h;rw [vl bc (hg.aO i es bc)];unfold du;rw [bc];simp only [List.getElem?_map,Option.map_map];congr 1;funext w;exact Jj
 have:i=g.length:=(by omega);subst this;rw [wN];unfold du;rw [List.getElem?_eq_none (Nat.le_refl _)];cases r<;>simp
theorem yF {g:List (List av)} (hg:fX g) {i:Nat} {es:List av} (bc:g[i]?=some es) {k:Nat} {x:av} (hx:es[k]?=some x) :
  ∃ l:List Int,(cP g es)[k]?=some l/\∀ r:Nat,l[r]?=((du g x.to.toNat)[r]?).map (fun (w:Wy)=>x.cost+w.cost):=by
 have ho:=hg.aO i es bc x (List.mem_of_getElem? hx);refine ⟨lR x (bk g x.to.toNat),by unfold cP;rw [List.getElem?_map,hx];rfl,fun r=>?_⟩;have:=yE hg (i:=x.to.toNat) (by have:=ho.hi;omega) r;unfold lR;rw [List.getElem?_map];have e:∀ o:Option lQ,o.map (fun p=>x.cost+p.1)=(o.map (·.1)).map fun c=>x.cost+c:=fun o=>by cases o<;>rfl
 rw [e,this];cases (du g x.to.toNat)[r]?<;>rfl
theorem Cz (g:List (List av)) (es:List av):(cP g es).length=es.length:=by simp [cP]
theorem OG {g:List (List av)} (hg:fX g):∀ (d i:Nat),i+d=g.length->∀ p∈bk g i,0<=p.1/\p.1<=18000*(d:Int):=by
 intro d;induction d using Nat.strongRecOn with
 | _ d ih=>
   intro i hi p hp;by_cases h:i<g.length
   ·obtain ⟨es,bc⟩:=aL h;have hE:=hg.aO i es bc;rw [vl bc hE,List.mem_map] at hp;obtain ⟨w,hw,rfl⟩:=hp;rw [Jj];obtain ⟨t,ht⟩:=List.mem_iff_getElem?.1 hw;obtain ⟨_,l,h2,h3⟩:=jR ht;unfold cP at h2;rw [List.getElem?_map] at h2;cases hx:es[w.aO]? with
    | none=>rw [hx] at h2;cases h2
    | some x=>
      rw [hx] at h2;cases h2
      have ho:=hE x (List.mem_of_getElem? hx);unfold lR at h3;rw [List.getElem?_map] at h3;cases hq:(bk g x.to.toNat)[w.aM]? with
      | none=>rw [hq] at h3;cases h3
      | some q=>
        rw [hq] at h3;have h3:x.cost+q.1=w.cost:=(by simpa using h3);have h5:=ho.lo;have h6:=ho.hi;have h7:=ho.cost;have:=ih (g.length - x.to.toNat) (by omega) x.to.toNat (by omega) q (List.mem_of_getElem? hq);omega
   have:i=g.length:=(by omega);subst this;rw [wN] at hp;simp at hp;subst hp;simp;omega
theorem Ay {g:List (List av)} (hg:fX g) {i:Nat} (hi:i<=g.length):∀ w∈du g i,0<=w.cost/\w.cost<=1080000:=by
 intro w hw;obtain ⟨t,ht⟩:=List.mem_iff_getElem?.1 hw;have:=yE hg hi t;rw [ht] at this;cases hq:(bk g i)[t]? with
 | none=>rw [hq] at this;cases this
 | some p=>
   rw [hq] at this;have hc:p.1=w.cost:=(by simpa using this);have h1:=OG hg (g.length - i) i (by omega) p (List.mem_of_getElem? hq);have:=hg.bB;omega
theorem OH (t:List Int) (v:av->Int):∀ (es:List av) (r:Int),(∀ x∈es,t.getD (x.word.ai.length - 1) 0=v x)->(∀ x∈es,-1<=v x/\0<=x.cost)->-1<=r ->
  (es.foldl (jU t) r=r\/∃ x∈es,v x≠-1/\es.foldl (jU t) r=x.cost+v x)/\(r≠-1->es.foldl (jU t) r≠-1/\es.foldl (jU t) r<=r)/\(∀ x∈es,v x≠-1->es.foldl (jU t) r≠-1/\es.foldl (jU t) r<=x.cost+v x)
 | [],r,_,_,_=>⟨.inl rfl,fun h=>⟨h,Int.le_refl _⟩,fun x hx=>by cases hx⟩
 | x::es,r,hv,hc,hr=>by
   rw [List.foldl_cons];have hq:jU t r x=sO (v x) r x.cost:=by unfold jU;rw [hv x (by simp)]
   have jV:=hc x (by simp);obtain ⟨r',uc⟩:∃ r',r'=jU t r x:=⟨_,rfl⟩;rw [<- uc]
   have aF:(r'=r\/v x≠-1/\r'=x.cost+v x)/\(r≠-1->r'≠-1/\r'<=r)/\(v x≠-1->r'≠-1/\r'<=x.cost+v x):=by
    rw [uc,hq];unfold sO;split
    ·rename_i h;simp at h;refine ⟨.inr ⟨h.1,rfl⟩,fun h2=>?_,fun h2=>?_⟩<;>omega
    rename_i h;simp at h;refine ⟨.inl rfl,fun h2=>⟨h2,Int.le_refl _⟩,fun h2=>?_⟩;have:=h h2;omega
   obtain ⟨s1,s2,s3⟩:=aF;obtain ⟨h1,h2,h3⟩:=OH t v es r' (fun y hy=>hv y (by simp [hy])) (fun y hy=>hc y (by simp [hy])) (by rcases s1 with e|⟨e1,e2⟩<;>omega)
   obtain ⟨z,hz⟩:∃ z,z=es.foldl (jU t) r':=⟨_,rfl⟩;rw [<- hz] at h1 h2 h3 ⊢;refine ⟨?_,fun hn=>?_,fun y hy OI=>?_⟩
   ·rcases h1 with e|⟨y,hy,e⟩
    ·rcases s1 with e2|⟨e2,e3⟩
     ·exact .inl (e.trans e2)
     exact .inr ⟨x,by simp,e2,e.trans e3⟩
    exact .inr ⟨y,by simp [hy],e⟩
   ·obtain ⟨a,b⟩:=s2 hn;obtain ⟨c,d⟩:=h2 a;exact ⟨c,by omega⟩
   rcases List.mem_cons.1 hy with rfl|hy
   ·obtain ⟨a,b⟩:=s3 OI;obtain ⟨c,d⟩:=h2 a;exact ⟨c,by omega⟩
   exact h3 y hy OI
theorem VW {g:List (List av)} {i:Nat} {es:List av} (h:g[i]?=some es):ez g i=es.foldl (jU (dQ (g.drop (i+1)))) (-1):=by unfold ez;rw [drop_cons h];rfl
theorem CA {g:List (List av)} (hg:fX g):∀ (d i:Nat),i+d=g.length->ez g i=match (du g i)[0]? with
  | none=>-1
  | some w=>w.cost:=by
 intro d;induction d using Nat.strongRecOn with
 | _ d ih=>
   intro i hi;by_cases h:i<g.length
   ·obtain ⟨es,bc⟩:=aL h;have hE:=hg.aO i es bc;have eS:∀ x∈es,(dQ (g.drop (i+1))).getD (x.word.ai.length - 1) 0=ez g x.to.toNat:=by intro x hx;have ho:=hE x hx;have h1:=ho.lo;have h2:=ho.hi;have h3:=ho.to;have h4:=yB (g.drop (i+1)) (x.word.ai.length - 1) (by rw [List.length_drop];omega);rw [Jk,show i+1+(x.word.ai.length - 1)=x.to.toNat by omega] at h4;rw [List.getD_eq_getElem?_getD,h4];rfl
    have wO:∀ x∈es,ez g x.to.toNat=match (du g x.to.toNat)[0]? with
      | none=>-1
      | some w=>w.cost:=by
     intro x hx;have ho:=hE x hx;have h1:=ho.lo;have h2:=ho.hi;exact ih (g.length - x.to.toNat) (by omega) _ (by omega)
    have dK:∀ x∈es,∀ w,(du g x.to.toNat)[0]?=some w->0<=w.cost:=by intro x hx w hw;exact (Ay hg (by have:=(hE x hx).hi;omega) w (List.mem_of_getElem? hw)).1
    have Jl:∀ x∈es,-1<=ez g x.to.toNat/\0<=x.cost:=by
     intro x hx;refine ⟨?_,(hE x hx).cost.1⟩;rw [wO x hx];cases hw:(du g x.to.toNat)[0]? with
     | none=>simp
     | some w=>have:=dK x hx w hw;simp only;omega
    obtain ⟨f1,f2,f3⟩:=OH (dQ (g.drop (i+1))) (fun x=>ez g x.to.toNat) es (-1) eS Jl (by omega);rw [VW bc];obtain ⟨z,hz⟩:∃ z,z=es.foldl (jU (dQ (g.drop (i+1)))) (-1):=⟨_,rfl⟩;rw [<- hz] at f1 f3 ⊢;have mo:du g i=aW (cP g es):=by unfold du;rw [bc]
    rw [mo,lG]
    have qC:∀ y,iv (cP g es) (cU (cP g es) 0) y↔∃ x w,es[y.aO]?=some x/\(du g x.to.toNat)[0]?=some w/\y.cost=x.cost+w.cost/\y.aM=0:=by
     intro y;constructor
     ·rintro ⟨q1,l,q2,q3⟩;have q1:y.aM=0:=q1;rw [q1] at q3;have aI:=(List.getElem?_eq_some_iff.1 q2).1;rw [Cz] at aI;obtain ⟨x,hx⟩:=aL aI;obtain ⟨l',e1,e2⟩:=yF hg bc hx;rw [q2] at e1;cases e1
      rw [e2] at q3;cases hw:(du g x.to.toNat)[0]? with
      | none=>rw [hw] at q3;cases q3
      | some w=>rw [hw] at q3;exact ⟨x,w,hx,hw,by simpa using q3.symm,q1⟩
     rintro ⟨x,w,hx,hw,hc,h0⟩;obtain ⟨l',e1,e2⟩:=yF hg bc hx;exact ⟨h0,l',e1,by rw [h0,e2,hw,hc];rfl⟩
    cases hb:gU (cP g es) (cU (cP g es) 0) with
    | none=>
      rcases f1 with e|⟨x,hx,hv,e⟩
      ·exact e
      obtain ⟨k,hk⟩:=List.mem_iff_getElem?.1 hx;rw [wO x hx] at hv;cases hw:(du g x.to.toNat)[0]? with
      | none=>rw [hw] at hv;exact absurd rfl hv
      | some w=>exact absurd ((qC ⟨x.cost+w.cost,k,0⟩).2 ⟨x,w,hk,hw,rfl,rfl⟩) (IW hb _)
    | some y=>
      obtain ⟨b1,b2⟩:=Av hb;obtain ⟨x,w,hx,hw,hc,h0⟩:=(qC y).1 b1;have vm:=List.mem_of_getElem? hx;have gA:ez g x.to.toNat=w.cost:=(by rw [wO x vm,hw]);have yG:=dK x vm w hw;obtain ⟨g1,g2⟩:=f3 x vm (by omega);simp only at g2 ⊢;rcases f1 with e|⟨x',ji,uX,e⟩
      ·exact absurd e g1
      obtain ⟨k,hk⟩:=List.mem_iff_getElem?.1 ji;rw [wO x' ji] at uX e;cases kZ:(du g x'.to.toNat)[0]? with
      | none=>rw [kZ] at uX;exact absurd rfl uX
      | some w'=>
        rw [kZ] at e;have hm:=b2 ⟨x'.cost+w'.cost,k,0⟩ ((qC _).2 ⟨x',w',hk,kZ,rfl,rfl⟩);rcases hm with e2|hl
        ·have:x'.cost+w'.cost=y.cost:=(by rw [<- e2]);simp only at e;omega
        unfold dm at hl;simp only at hl e;omega
   have:i=g.length:=(by omega);subst this;rw [Jm];unfold du;rw [List.getElem?_eq_none (Nat.le_refl _)];rfl
end Go.Abs.Wall
namespace Go.Abs.Wall.Lst
open Go Go.Abs Go.Proofs Go.Abs.Wall
structure pC (cls:List (List Int)) (t:Nat) (due:Bool) (Q:List Wy):Prop where
 ok:nQ cls t due Q
 bB:Q.length+(if due=true then 1 else 0)<=2000
 asked:t<=65
def rI (cls:List (List Int)) (nk:Nat) (hp:af):Prop:=∃ t due Q fv fh ov oh,pC cls t due Q/\Out 3 aq ((aW cls).take t) fv fh/\eA Q ov oh/\hp=(nk,.vec (ch fv ov due))::(fh++oh)
def yH (g:List (List av)) (i:Nat):List (List Int):=cP g (g.getD i [])
inductive fl (g:List (List av)):Nat->List Nat->af->Prop
 | nil (i:Nat):fl g i [] []
 | cons {i k:Nat} {ks:List Nat} {h1 h2:af}:rI (yH g i) k h1->fl g (i+1) ks h2->fl g i (k::ks) (h1++h2)
theorem fl.split {g:List (List av)}:∀ {i:Nat} {ks:List Nat} {hp:af} (n:Nat),fl g i ks hp->n<=ks.length->∃ hA hB,hp=hA++hB/\fl g i (ks.take n) hA/\fl g (i+n) (ks.drop n) hB
 | i,ks,hp,0,h,_=>⟨[],hp,rfl,by simpa using .nil i,by simpa using h⟩
 | i,_,_,n+1,.nil _,hn=>by simp at hn
 | i,_,_,n+1,.cons (k:=k) (ks:=ks) (h1:=h1) (h2:=h2) oE ug,hn=>by obtain ⟨hA,hB,rfl,e1,e2⟩:=fl.split n ug (by simpa using hn);refine ⟨h1++hA,hB,by rw [List.append_assoc],.cons oE e1,?_⟩;rw [show i+(n+1)=i+1+n by omega];exact e2
theorem fl.join {g:List (List av)}:∀ {i:Nat} {ks FQ:List Nat} {hA hB:af},fl g i ks hA->fl g (i+ks.length) FQ hB->fl g i (ks++FQ) (hA++hB)
 | i,_,FQ,_,hB,.nil _,h2=>by simpa using h2
 | i,_,FQ,_,hB,.cons (k:=k) (ks:=ks) (h1:=h1) (h2:=h2) oE ug,h3=>by rw [List.append_assoc];refine .cons oE (fl.join ug ?_);rw [show i+1+ks.length=i+(k::ks).length by simp;omega];exact h3
def sP:Wy:=⟨0,0,0⟩
def bY (g:List (List av)) (i aM:Nat):AV:=match (du g i)[aM]? with
 | some w=>.aH [.agg (aq w),.bool true]
 | none=>.aH [.agg (aq sP),.bool false]
def mU (k:Nat):List AV:=[.bj k 0]
def gp (g:List (List av)) (R:List Int) (nv:AV):Ob:=.vec [.au (Az g R),nv]
def jW (g:List (List av)) (at_:Nat):Prop:=
 ∀ (tb:Nat) (R:List Int) (pre ks:List Nat) (nq:Option Nat) (nv:AV) (aM:Nat) (hp:af),pre.length=at_->(pre++ks).length=g.length->(g=[]\/nv=.sl 1 nq ((pre++ks).map mU))->fl g at_ ks hp->aM<=64 ->
  aB Tryz.prog 216 [.bj tb 0,.int .i64 at_,.int .i64 aM] ((tb,gp g R nv)::hp) (fun v h'=>v=bY g at_ aM/\∃ aY,fl g at_ ks aY/\h'=(tb,gp g R nv)::aY)
theorem vn {cls:List (List Int)} {t r:Nat} (h:(aW cls)[t]?=none) (hr:t<=r):(aW cls)[r]?=none:=by rw [List.getElem?_eq_none_iff] at h ⊢;omega
theorem take_one {cls:List (List Int)} {t:Nat} {x:Wy} (h:(aW cls)[t]?=some x):(aW cls).take (t+1)=(aW cls).take t++[x]:=dj h
theorem Out.len {α:Type} {k:Nat} {enc:α->List AV} {o:List α} {v:AV} {hp:af} (h:Out k enc o v hp):lenOf? v=some o.length:=by
 rcases h with ⟨rfl,rfl,rfl⟩|⟨q,rfl,rfl⟩
 ·rfl
 simp [lenOf?]
theorem CB {a b c:Nat × Ob} {fh oh h2:af}:(a::b::c::(fh++(oh++h2))).Perm (a::b::((c::(fh++oh))++h2)):=by rw [List.cons_append,List.append_assoc]
theorem Jn {A B C D:af}:(D++(A++(B++C))).Perm (A++(B++(C++D))):=by have h:A++(B++(C++D))=(A++(B++C))++D:=(by simp [List.append_assoc]);rw [h];exact List.perm_append_comm
theorem OJ {A B C D:af}:(D++(A++(B++C))).Perm (A++(B++(D++C))):=by have h:A++(B++(D++C))=(A++B)++(D++C):=(by simp [List.append_assoc]);have h2:D++(A++(B++C))=D++((A++B)++C):=(by simp [List.append_assoc]);rw [h,h2];exact List.perm_append_comm_assoc _ _ _
theorem oN {g:List (List av)} {at_ j:Nat} (IH:jW g j) (hj:at_<j) (eG:j<=g.length) {tb:Nat} {R:List Int} {pre ks:List Nat} {k:Nat} {nq:Option Nat} (ej:pre.length=at_) (dW:(pre++k::ks).length=g.length) {aM:Nat} (hr:aM<=64) {h2:af} (hn:fl g (at_+1) ks h2) (A B:af) :
  aB Tryz.prog 216 [.bj tb 0,.int .i64 j,.int .i64 aM] (A++(tb,gp g R (.sl 1 nq ((pre++k::ks).map mU)))::(B++h2))
   (fun v H'=>v=bY g j aM/\∃ ug,fl g (at_+1) ks ug/\H'=A++(tb,gp g R (.sl 1 nq ((pre++k::ks).map mU)))::(B++ug)):=by
 rw [List.length_append,List.length_cons] at dW;obtain ⟨m,rfl⟩:∃ m,j=at_+1+m:=⟨j - (at_+1),by omega⟩;obtain ⟨hA,hB,rfl,nA,nB⟩:=hn.split m (by omega);have he:(pre++k::ks.take m)++ks.drop m=pre++k::ks:=(by rw [List.append_assoc,List.cons_append,List.take_append_drop]);have gR:(ks.take m).length=m:=by rw [List.length_take];omega
 have h1:=IH tb R (pre++k::ks.take m) (ks.drop m) nq (.sl 1 nq ((pre++k::ks).map mU)) aM hB (by rw [List.length_append,List.length_cons,gR];omega) (by rw [he,List.length_append,List.length_cons];omega) (.inr (by rw [he])) nB hr;refine aB.re h1 (h2:=A++(B++hA)) ?_ ?_
 ·have p1:((tb,gp g R (.sl 1 nq ((pre++k::ks).map mU)))::hB++(A++(B++hA))).Perm ((tb,gp g R (.sl 1 nq ((pre++k::ks).map mU)))::(A++(B++(hA++hB)))):=by
   exact List.Perm.cons _ Jn
  exact p1.trans List.perm_middle.symm
 rintro v h3 ⟨rfl,aY,jz,rfl⟩;refine ⟨_,?_,rfl,hA++aY,?_,rfl⟩
 ·have p1:((tb,gp g R (.sl 1 nq ((pre++k::ks).map mU)))::aY++(A++(B++hA))).Perm ((tb,gp g R (.sl 1 nq ((pre++k::ks).map mU)))::(A++(B++(hA++aY)))):=by
   exact List.Perm.cons _ Jn
  exact p1.trans List.perm_middle.symm
 have:=fl.join nA (by rw [gR];exact jz);rwa [List.take_append_drop] at this
theorem mV {x:Wy} {Q:List Wy} (hs:Q.Pairwise dm) {nk:Nat} {fv:AV} {due:Bool} {ov:AV} {oh:af} (ho:eA Q ov oh) (hl:Q.length<=65536) (A B C:af) :
  aB Tryz.prog 215 [.bj nk 1,.agg (aq x)] (A++(nk,.vec (ch fv ov due))::(B++(oh++C)))
   (fun v H'=>v=.aH []/\∃ iM iN,eA (iK x Q) iM iN/\H'=A++(nk,.vec (ch fv iM due))::(B++(iN++C))):=by
 have key:∀ (o:Nat × Ob) (oh:af),(o::oh++(A++(B++C))).Perm (A++o::(B++(oh++C))):=by intro o oh;refine List.Perm.trans ?_ List.perm_middle.symm;exact List.Perm.cons _ OJ
 refine aB.re (lP x Q hs nk fv due ov oh ho hl) (key _ _) ?_;rintro v h3 ⟨rfl,iM,iN,bH,rfl⟩;exact ⟨_,key _ _,rfl,iM,iN,bH,rfl⟩
def c216:az:=⟨[0,1,2,6,7,8,9,10,11,12,22,39,43,83,105],[],[9,10,11],[],[(7,[0,1,2,3,4,5,6,7,8,9,10,11,12,13],[9]),(8,[0,1,2,3,4,5,6,7,8,9,10,11,12,13,14,15],[10]),(11,[0,1,2,3,4,5,6,7,8,9,10,11,12,13,14],[]),(14,[0,1,2,3,4,5,6,7,8,9,10,11,12,13,14,15,16],[])],[98]⟩
set_option maxHeartbeats 2000000 in
theorem pD (g:List (List av)) (hg:fX g) (at_:Nat) (cM:at_<=g.length) (IH:∀ j,at_<j->j<=g.length->jW g j):jW g at_:=by
 intro tb R pre ks nq nv aM hp ej dW CC hN hr;have OK:=hg.bB;refine aB.post (R:=fun v h'=>v=bY g at_ aM/\∃ aY,fl g at_ ks aY/\∃ rb o,h'.Perm ((rb,o)::(tb,gp g R nv)::aY)) ?_ ?_
 ·by_cases he:at_=g.length
  ·have mo:du g at_=[sP]:=by unfold du;rw [he,List.getElem?_eq_none (Nat.le_refl _)];rfl
   refine aG (F:=Tryz.f216) c216 rfl rfl rfl mixed rfl fun X=>?_;(conv=>whnf);repeat ((first|refine ⟨_,_,.tail _ (.head _),rfl,?_⟩|intro (nb:Nat));conv=>whnf)
   refine cT (by simp;omega) ?_;(conv=>whnf);repeat ((first|refine ⟨_,_,.head _,rfl,?_⟩|refine ⟨_,_,.here _,aR,?_⟩);conv=>whnf)
   refine ⟨?_,hp,hN,nb,_,.refl _⟩;unfold bY;rw [mo];cases aM with
   | zero=>rfl
   | succ r=>rfl
  have CD:at_<g.length:=(by omega);obtain ⟨es,bc⟩:=aL CD;have hE:=hg.aO at_ es bc;have mo:du g at_=aW (cP g es):=by unfold du;rw [bc]
  have mq:yH g at_=cP g es:=by unfold yH;rw [List.getD_eq_getElem?_getD,bc];rfl
  cases hN with
  | nil=>rw [List.append_nil] at dW;omega
  | cons jS dL=>
  rename_i k ks h1 h2
  have VX:nv=.sl 1 nq ((pre++k::ks).map mU):=by
   rcases CC with h|h
   ·rw [h] at CD;simp at CD
   exact h
  subst VX;have V0:(pre++k::ks)[at_]?=some k:=by rw [<- ej];simp
  unfold rI at jS;rw [mq] at jS;obtain ⟨t0,Jo,Q0,Jp,Jq,AA,AB,yr,CE,CF,rfl⟩:=jS;refine aG (F:=Tryz.f216) c216 rfl rfl rfl mixed rfl fun X=>?_;(conv=>whnf);repeat ((first|refine ⟨_,_,.tail _ (.head _),rfl,?_⟩|intro (nb:Nat));conv=>whnf)
  refine cF (by simp;omega) ?_;(conv=>whnf);repeat ((first|refine ix (by assumption) ?_|refine ⟨_,_,.tail _ (.head _),rfl,?_⟩);conv=>whnf)
  refine bW rfl mixed [0,1,2,6,8] [] (fun m r h=>∃ (t:Nat) (due:Bool) (Q:List Wy) (fv:AV) (fh:af) (ov:AV) (oh h2:af) (rb:Nat),r=[(0,[],.bj tb 0),(1,[],.int .i64 at_),(2,[],.int .i64 aM),(6,[],.bj rb 0),(8,[],.bj k 0)]/\h=(rb,.vec (aq sP))::(tb,gp g R (.sl 1 nq ((pre++k::ks).map mU)))::(k,.vec (ch fv ov due))::(fh++(oh++h2))/\m=66 - t/\pC (cP g es) t due Q/\Out 3 aq ((aW (cP g es)).take t) fv fh/\eA Q ov oh/\fl g (at_+1) ks h2) ?_ ?_
  ·(conv=>whnf);refine ⟨_,_,ao.refl _ _,_,t0,Jo,Q0,Jp,Jq,AA,AB,h2,nb,rfl,?_,rfl,yr,CE,CF,dL⟩;rw [List.cons_append,List.append_assoc];rfl
  clear yr CE CF dL;rintro m r h' ⟨t,due,Q,fv,fh,ov,oh,h2,rb,rfl,rfl,rfl,bf,nK,dB,dL⟩;have gR:=bf.ok.le;have rJ:=nK;have hlen:((aW (cP g es)).take t).length=t:=by rw [List.length_take];omega
  have gQ:(((aW (cP g es)).take t).map aq).length=t:=by rw [List.length_map];exact hlen
  have VY:=bf.asked;rcases nK with ⟨hF,rfl,rfl⟩|⟨q,rfl,rfl⟩
  ·have Jr:t=0:=by rw [hF] at hlen;exact hlen.symm
   have Js:due=false:=by
    cases due with
    | false=>rfl
    | true=>have:=bf.ok.pos rfl;omega
   subst Js;have nR:t<=aM:=(by omega);(conv=>whnf);repeat ((refine ⟨_,_,.tail _ (.tail _ (.head _)),rfl,?_⟩);conv=>whnf)
   refine cT (by simp) ?_;(conv=>whnf);repeat ((refine ⟨_,_,.tail _ (.tail _ (.head _)),rfl,?_⟩);conv=>whnf)
   refine cF rfl ?_;cases hQ:Q with
   | nil=>
     subst hQ;have dH:bY g at_ aM=.aH [.agg (aq sP),.bool false]:=by unfold bY;rw [mo,vn bf.ok.empty nR]
     have yI:=dB;rcases dB with ⟨_,rfl,rfl⟩|⟨ob,pr,rfl,rfl⟩
     all_goals
      (conv=>whnf);repeat ((refine ⟨_,_,.tail _ (.tail _ (.head _)),rfl,?_⟩);conv=>whnf)
      refine cT rfl ?_;(conv=>whnf);repeat ((first|(refine ⟨_,_,.here _,aR,?_⟩)|refine ⟨_,_,.head _,rfl,?_⟩);conv=>whnf)
      refine ⟨dH.symm,_,.cons ⟨t,false,[],_,_,_,_,by rw [mq];exact bf,by rw [mq];exact rJ,yI,rfl⟩ dL,rb,_,by first|exact CB|exact .refl _|(refine List.Perm.of_eq ?_;simp)⟩
   | cons x Q'=>
     rcases dB with ⟨h0,rfl,rfl⟩|⟨ob,pr,rfl,rfl⟩
     ·rw [hQ] at h0;cases h0
     subst hQ;obtain ⟨hx,fL⟩:=bf.ok.pop;have cj:=take_one hx;have dw:=bf.bB;have rK:(x::Q').length=Q'.length+1:=rfl;have vp:((aW (cP g es)).take t).length<=65:=(by omega);(conv=>whnf);repeat ((refine ⟨_,_,.tail _ (.tail _ (.head _)),rfl,?_⟩);conv=>whnf)
     refine cF (decide_eq_false (by omega)) ?_;(conv=>whnf);repeat ((first|(refine ⟨_,_,.tail _ (.tail _ (.head _)),rfl,?_⟩)|(refine ⟨0,ah ⟨rfl,by omega⟩,?_⟩)|(refine oM (i:=0) dn (.tail _ (.tail _ (.tail _ (.head _)))) rfl rfl ?_)|refine And.intro (by show aP (aN Tryz.f216 _) _=true;decide +kernel) ?_);conv=>whnf)
     first|refine ⟨Nat.le_of_ble_eq_true rfl,fun q'=>?_⟩|refine ⟨(by simp;unfold aU;omega),fun q'=>⟨_,.there (.there (.there (.here _))),?_⟩⟩
     (conv=>whnf);repeat ((first|refine ⟨ah ⟨by omega,by omega⟩,?_⟩|(refine ⟨_,_,.there (.there (.there (.here _))),aR,?_⟩)|(refine ⟨_,_,.tail _ (.tail _ (.tail _ (.head _))),rfl,?_⟩));conv=>whnf)
     have e1:pr.length+Int.toNat 1*3=(pr++aq x).length:=by rw [List.length_append];rfl
     have e2:(((x::Q').length:Nat):Int).toNat - Int.toNat 1=Q'.length:=by rw [Int.toNat_natCast];rfl
     have e3:pr++((x::Q').map aq).flatten=(pr++aq x)++(Q'.map aq).flatten:=(by simp);have iw:Q'.length+(if true=true then 1 else 0)<=2000:=by simp at dw ⊢;omega
     rw [e1,e2,e3]
     first
      | exact ⟨_,_,ao.refl _ _,_,(by omega),t+1,true,Q',_,[(q',.tok)],_,[(ob,_)],h2,rb,rfl,rfl,rfl,⟨fL,iw,by omega⟩,.inr ⟨q',by rw [cj,List.map_append];rfl,rfl⟩,.inr ⟨ob,pr++aq x,rfl,rfl⟩,dL⟩
      | exact ⟨_,_,ao.perm (List.perm_middle (l₁:=[_,_,_])).symm,_,(by omega),t+1,true,Q',_,[(q',.tok)],_,[(ob,_)],h2,rb,rfl,rfl,rfl,⟨fL,iw,by omega⟩,.inr ⟨q',by rw [cj,hF];rfl,rfl⟩,.inr ⟨ob,pr++aq x,rfl,rfl⟩,dL⟩
  (conv=>whnf);repeat ((refine ⟨_,_,.tail _ (.tail _ (.head _)),rfl,?_⟩);conv=>whnf)
  refine ⟨fun hz=>?_,fun hz=>?_⟩<;>simp at hz
  ·have nR:t<=aM:=(by omega);cases due with
   | false=>
     (conv=>whnf);repeat ((refine ⟨_,_,.tail _ (.tail _ (.head _)),rfl,?_⟩);conv=>whnf)
     refine cF rfl ?_;cases hQ:Q with
     | nil=>
       subst hQ;have dH:bY g at_ aM=.aH [.agg (aq sP),.bool false]:=by unfold bY;rw [mo,vn bf.ok.empty nR]
       have yI:=dB;rcases dB with ⟨_,rfl,rfl⟩|⟨ob,pr,rfl,rfl⟩
       all_goals
        (conv=>whnf);repeat ((refine ⟨_,_,.tail _ (.tail _ (.head _)),rfl,?_⟩);conv=>whnf)
        refine cT rfl ?_;(conv=>whnf);repeat ((first|(refine ⟨_,_,.here _,aR,?_⟩)|refine ⟨_,_,.head _,rfl,?_⟩);conv=>whnf)
        refine ⟨dH.symm,_,.cons ⟨t,false,[],_,_,_,_,by rw [mq];exact bf,by rw [mq];exact rJ,yI,rfl⟩ dL,rb,_,by first|exact CB|exact .refl _|(refine List.Perm.of_eq ?_;simp)⟩
     | cons x Q'=>
       rcases dB with ⟨h0,rfl,rfl⟩|⟨ob,pr,rfl,rfl⟩
       ·rw [hQ] at h0;cases h0
       subst hQ;obtain ⟨hx,fL⟩:=bf.ok.pop;have cj:=take_one hx;have dw:=bf.bB;have rK:(x::Q').length=Q'.length+1:=rfl;have vp:((aW (cP g es)).take t).length<=65:=(by omega);(conv=>whnf);repeat ((refine ⟨_,_,.tail _ (.tail _ (.head _)),rfl,?_⟩);conv=>whnf)
       refine cF (decide_eq_false (by omega)) ?_;(conv=>whnf);repeat ((first|(refine ⟨_,_,.tail _ (.tail _ (.head _)),rfl,?_⟩)|(refine ⟨0,ah ⟨rfl,by omega⟩,?_⟩)|(refine oM (i:=0) dn (.tail _ (.tail _ (.tail _ (.tail _ (.head _))))) rfl rfl ?_)|refine And.intro (by show aP (aN Tryz.f216 _) _=true;decide +kernel) ?_);conv=>whnf)
       first|refine ⟨Nat.le_of_ble_eq_true rfl,fun q'=>?_⟩|refine ⟨(by simp;unfold aU;omega),fun q'=>⟨_,.there (.there (.there (.here _))),?_⟩⟩
       (conv=>whnf);repeat ((first|refine ⟨ah ⟨by omega,by omega⟩,?_⟩|(refine ⟨_,_,.there (.there (.here _)),aR,?_⟩)|(refine ⟨_,_,.tail _ (.tail _ (.head _)),rfl,?_⟩));conv=>whnf)
       have e1:pr.length+Int.toNat 1*3=(pr++aq x).length:=by rw [List.length_append];rfl
       have e2:(((x::Q').length:Nat):Int).toNat - Int.toNat 1=Q'.length:=by rw [Int.toNat_natCast];rfl
       have e3:pr++((x::Q').map aq).flatten=(pr++aq x)++(Q'.map aq).flatten:=(by simp);have iw:Q'.length+(if true=true then 1 else 0)<=2000:=by simp at dw ⊢;omega
       rw [e1,e2,e3]
       first
        | exact ⟨_,_,ao.refl _ _,_,(by omega),t+1,true,Q',_,[(q',.tok)],_,[(ob,_)],h2,rb,rfl,rfl,rfl,⟨fL,iw,by omega⟩,.inr ⟨q',by rw [cj,List.map_append];rfl,rfl⟩,.inr ⟨ob,pr++aq x,rfl,rfl⟩,dL⟩
        | exact ⟨_,_,ao.perm (List.perm_middle (l₁:=[_,_,_])).symm,_,(by omega),t+1,true,Q',_,[(q',.tok)],_,[(ob,_)],h2,rb,rfl,rfl,rfl,⟨fL,iw,by omega⟩,.inr ⟨q',by rw [cj,hF];rfl,rfl⟩,.inr ⟨ob,pr++aq x,rfl,rfl⟩,dL⟩
   | true=>
     obtain ⟨y,hy⟩:=bf.ok.last;have yJ:=bf.ok.pos rfl;have Ct:=Cs hy;have FR:((aW (cP g es)).take t)[t - 1]?=some y:=by rw [List.getElem?_take_of_lt (by omega)];exact hy
     obtain ⟨_,cl,bz,bG⟩:=jR hy;obtain ⟨xe,CG⟩:=aL (l:=es) (i:=y.aO) (by have:=(List.getElem?_eq_some_iff.1 bz).1;rw [Cz] at this;exact this);have jA:=hE xe (List.mem_of_getElem? CG);(conv=>whnf);repeat ((refine ⟨_,_,.tail _ (.tail _ (.head _)),rfl,?_⟩);conv=>whnf)
     refine cT rfl ?_;(conv=>whnf);repeat ((first|refine ⟨ah ⟨by omega,by omega⟩,?_⟩|refine ix (by assumption) ?_|(refine ⟨_,_,.there (.there (.here _)),aR,?_⟩)|(refine ⟨_,_,.tail _ (.tail _ (.head _)),rfl,?_⟩)|(refine dg (t - 1) (by omega) FR ?_)|refine ⟨_,_,bo.here _,?_⟩|refine ⟨_,_,.tail _ (.head _),rfl,?_⟩|refine ⟨_,_,.here _,aR,?_⟩|refine And.intro (by show aP (aN Tryz.f216 _) _=true;decide +kernel) ?_|intro (nb:Nat));conv=>whnf)
     have Jt:=jA.lo;have Ju:=jA.hi;have CH:=jA.cost;have eS:((xe.to.toNat:Nat):Int)=xe.to:=Int.toNat_of_nonneg (by omega);have sQ:=oN (IH xe.to.toNat (by omega) (by omega)) (by omega) (by omega) (tb:=tb) (R:=R) (nq:=nq) ej dW (aM:=y.aM+1) (by omega) dL [(rb,.vec (aq sP))] ((k,.vec (ch (.sl 3 (some q) (((aW (cP g es)).take t).map aq)) ov false))::(q,.tok)::oh);rw [eS] at sQ;obtain ⟨l,lS,mL⟩:=yF hg bc CG;have pE:=mL (y.aM+1);have dw:=bf.bB;have VZ:Q.length+1<=2000:=(by simpa using dw);refine aB.mono ?_ sQ;clear dL;rintro v h1 ⟨rfl,h2,dL,rfl⟩;cases hw:(du g xe.to.toNat)[y.aM+1]? with
     | none=>
       have dH:bY g xe.to.toNat (y.aM+1)=.aH [.agg (aq sP),.bool false]:=by unfold bY;rw [hw]
       rw [hw] at pE;rw [dH];have bf:pC (cP g es) t false Q:=⟨bf.ok.skip hy lS pE,by simp;omega,bf.asked⟩;(conv=>whnf);repeat ((first|refine ⟨_,_,bo.here _,⟨Nat.le_of_ble_eq_true rfl,rfl⟩,?_⟩|intro (nb:Nat));conv=>whnf)
       refine cF rfl ?_;cases hQ:Q with
       | nil=>
         subst hQ;have dH:bY g at_ aM=.aH [.agg (aq sP),.bool false]:=by unfold bY;rw [mo,vn bf.ok.empty nR]
         have yI:=dB;rcases dB with ⟨_,rfl,rfl⟩|⟨ob,pr,rfl,rfl⟩
         all_goals
          (conv=>whnf);repeat ((refine ⟨_,_,.tail _ (.tail _ (.head _)),rfl,?_⟩);conv=>whnf)
          refine cT rfl ?_;(conv=>whnf);repeat ((first|(refine ⟨_,_,.here _,aR,?_⟩)|refine ⟨_,_,.head _,rfl,?_⟩);conv=>whnf)
          refine ⟨dH.symm,_,.cons ⟨t,false,[],_,_,_,_,by rw [mq];exact bf,by rw [mq];exact rJ,yI,rfl⟩ dL,rb,_,by first|exact CB|exact .refl _|(refine List.Perm.of_eq ?_;simp)⟩
       | cons x Q'=>
         rcases dB with ⟨h0,rfl,rfl⟩|⟨ob,pr,rfl,rfl⟩
         ·rw [hQ] at h0;cases h0
         subst hQ;obtain ⟨hx,fL⟩:=bf.ok.pop;have cj:=take_one hx;have dw:=bf.bB;have rK:(x::Q').length=Q'.length+1:=rfl;have vp:((aW (cP g es)).take t).length<=65:=(by omega);(conv=>whnf);repeat ((refine ⟨_,_,.tail _ (.tail _ (.head _)),rfl,?_⟩);conv=>whnf)
         refine cF (decide_eq_false (by omega)) ?_;(conv=>whnf);repeat ((first|(refine ⟨_,_,.tail _ (.tail _ (.head _)),rfl,?_⟩)|(refine ⟨0,ah ⟨rfl,by omega⟩,?_⟩)|(refine oM (i:=0) dn (.tail _ (.tail _ (.tail _ (.tail _ (.head _))))) rfl rfl ?_)|refine And.intro (by show aP (aN Tryz.f216 _) _=true;decide +kernel) ?_);conv=>whnf)
         first|refine ⟨Nat.le_of_ble_eq_true rfl,fun q'=>?_⟩|refine ⟨(by simp;unfold aU;omega),fun q'=>⟨_,.there (.there (.there (.here _))),?_⟩⟩
         (conv=>whnf);repeat ((first|refine ⟨ah ⟨by omega,by omega⟩,?_⟩|(refine ⟨_,_,.there (.there (.here _)),aR,?_⟩)|(refine ⟨_,_,.tail _ (.tail _ (.head _)),rfl,?_⟩));conv=>whnf)
         have e1:pr.length+Int.toNat 1*3=(pr++aq x).length:=by rw [List.length_append];rfl
         have e2:(((x::Q').length:Nat):Int).toNat - Int.toNat 1=Q'.length:=by rw [Int.toNat_natCast];rfl
         have e3:pr++((x::Q').map aq).flatten=(pr++aq x)++(Q'.map aq).flatten:=(by simp);have iw:Q'.length+(if true=true then 1 else 0)<=2000:=by simp at dw ⊢;omega
         rw [e1,e2,e3]
         first
          | exact ⟨_,_,ao.refl _ _,_,(by omega),t+1,true,Q',_,[(q',.tok)],_,[(ob,_)],h2,rb,rfl,rfl,rfl,⟨fL,iw,by omega⟩,.inr ⟨q',by rw [cj,List.map_append];rfl,rfl⟩,.inr ⟨ob,pr++aq x,rfl,rfl⟩,dL⟩
          | exact ⟨_,_,ao.perm (List.perm_middle (l₁:=[_,_,_])).symm,_,(by omega),t+1,true,Q',_,[(q',.tok)],_,[(ob,_)],h2,rb,rfl,rfl,rfl,⟨fL,iw,by omega⟩,.inr ⟨q',by rw [cj,hF];rfl,rfl⟩,.inr ⟨ob,pr++aq x,rfl,rfl⟩,dL⟩
     | some w=>
       have dH:bY g xe.to.toNat (y.aM+1)=.aH [.agg (aq w),.bool true]:=by unfold bY;rw [hw]
       rw [hw] at pE;have CI:=Ay hg (i:=xe.to.toNat) (by omega) w (List.mem_of_getElem? hw);rw [dH];(conv=>whnf);repeat ((first|refine ⟨_,_,bo.here _,⟨Nat.le_of_ble_eq_true rfl,rfl⟩,?_⟩|intro (nb:Nat));conv=>whnf)
       refine cT rfl ?_;(conv=>whnf);repeat ((first|refine ⟨ah ⟨by omega,by omega⟩,?_⟩|refine And.intro (by show aP (aN Tryz.f216 _) _=true;decide +kernel) ?_);conv=>whnf)
       refine aB.mono ?_ (mV (x:=⟨xe.cost+w.cost,y.aO,y.aM+1⟩) bf.ok.sorted (nk:=k) (fv:=.sl 3 (some q) (((aW (cP g es)).take t).map aq)) (due:=false) dB (by omega) [(rb,.vec (aq sP)),(tb,gp g R (.sl 1 nq ((pre++k::ks).map mU)))] [(q,.tok)] h2);have fL:pC (cP g es) t false (iK ⟨xe.cost+w.cost,y.aO,y.aM+1⟩ Q):=⟨bf.ok.push hy lS pE,by rw [wM];simp;omega,bf.asked⟩;clear bf dB;rintro v h1 ⟨rfl,ov,oh,dB,rfl⟩;obtain ⟨Q,Jv⟩:∃ Q',Q'=iK ⟨xe.cost+w.cost,y.aO,y.aM+1⟩ Q:=⟨_,rfl⟩;rw [<- Jv] at dB fL;have bf:=fL;(conv=>whnf);repeat ((refine ⟨_,_,.tail _ (.tail _ (.head _)),rfl,?_⟩);conv=>whnf)
       cases hQ:Q with
       | nil=>
         subst hQ;have dH:bY g at_ aM=.aH [.agg (aq sP),.bool false]:=by unfold bY;rw [mo,vn bf.ok.empty nR]
         have yI:=dB;rcases dB with ⟨_,rfl,rfl⟩|⟨ob,pr,rfl,rfl⟩
         all_goals
          (conv=>whnf);skip;refine cT rfl ?_;(conv=>whnf);repeat ((first|(refine ⟨_,_,.here _,aR,?_⟩)|refine ⟨_,_,.head _,rfl,?_⟩);conv=>whnf)
          refine ⟨dH.symm,_,.cons ⟨t,false,[],_,_,_,_,by rw [mq];exact bf,by rw [mq];exact rJ,yI,rfl⟩ dL,rb,_,by first|exact CB|exact .refl _|(refine List.Perm.of_eq ?_;simp)⟩
       | cons x Q'=>
         rcases dB with ⟨h0,rfl,rfl⟩|⟨ob,pr,rfl,rfl⟩
         ·rw [hQ] at h0;cases h0
         subst hQ;obtain ⟨hx,fL⟩:=bf.ok.pop;have cj:=take_one hx;have dw:=bf.bB;have rK:(x::Q').length=Q'.length+1:=rfl;have vp:((aW (cP g es)).take t).length<=65:=(by omega);(conv=>whnf);skip;refine cF (decide_eq_false (by omega)) ?_;(conv=>whnf);repeat ((first|(refine ⟨_,_,.tail _ (.tail _ (.head _)),rfl,?_⟩)|(refine ⟨0,ah ⟨rfl,by omega⟩,?_⟩)|(refine oM (i:=0) dn (.tail _ (.tail _ (.tail _ (.tail _ (.head _))))) rfl rfl ?_)|refine And.intro (by show aP (aN Tryz.f216 _) _=true;decide +kernel) ?_);conv=>whnf)
         first|refine ⟨Nat.le_of_ble_eq_true rfl,fun q'=>?_⟩|refine ⟨(by simp;unfold aU;omega),fun q'=>⟨_,.there (.there (.there (.here _))),?_⟩⟩
         (conv=>whnf);repeat ((first|refine ⟨ah ⟨by omega,by omega⟩,?_⟩|(refine ⟨_,_,.there (.there (.here _)),aR,?_⟩)|(refine ⟨_,_,.tail _ (.tail _ (.head _)),rfl,?_⟩));conv=>whnf)
         have e1:pr.length+Int.toNat 1*3=(pr++aq x).length:=by rw [List.length_append];rfl
         have e2:(((x::Q').length:Nat):Int).toNat - Int.toNat 1=Q'.length:=by rw [Int.toNat_natCast];rfl
         have e3:pr++((x::Q').map aq).flatten=(pr++aq x)++(Q'.map aq).flatten:=(by simp);have iw:Q'.length+(if true=true then 1 else 0)<=2000:=by simp at dw ⊢;omega
         rw [e1,e2,e3]
         first
          | exact ⟨_,_,ao.refl _ _,_,(by omega),t+1,true,Q',_,[(q',.tok)],_,[(ob,_)],h2,rb,rfl,rfl,rfl,⟨fL,iw,by omega⟩,.inr ⟨q',by rw [cj,List.map_append];rfl,rfl⟩,.inr ⟨ob,pr++aq x,rfl,rfl⟩,dL⟩
          | exact ⟨_,_,ao.perm (List.perm_middle (l₁:=[_,_,_])).symm,_,(by omega),t+1,true,Q',_,[(q',.tok)],_,[(ob,_)],h2,rb,rfl,rfl,rfl,⟨fL,iw,by omega⟩,.inr ⟨q',by rw [cj,hF];rfl,rfl⟩,.inr ⟨ob,pr++aq x,rfl,rfl⟩,dL⟩
  obtain ⟨w,hw⟩:=aL (l:=(aW (cP g es)).take t) (i:=aM) (by omega);have oO:=hw;rw [List.getElem?_take_of_lt (by omega)] at oO;(conv=>whnf);repeat ((first|refine ix (by assumption) ?_|(refine ⟨_,_,.tail _ (.tail _ (.head _)),rfl,?_⟩)|(refine ⟨_,_,.here _,aR,?_⟩)|refine ⟨_,_,.head _,rfl,?_⟩);conv=>whnf)
  refine ⟨?_,_,.cons ⟨t,due,Q,_,_,_,_,by rw [mq];exact bf,by rw [mq];exact rJ,dB,rfl⟩ dL,rb,_,CB⟩;unfold bY;rw [mo,oO];rfl
 rintro v h1 ⟨hv,aY,jz,rb,o,eT⟩;refine ⟨v,_,⟨hv,aY,jz,rfl⟩,ag.refl _,fun k o hm=>eT.mem_iff.2 (List.mem_cons_of_mem _ hm),fun hn=>?_⟩;have:=((eT.map (fun p:Nat × Ob=>p.1)).nodup_iff).1 hn;exact (List.nodup_cons.1 this).2
theorem getAll (g:List (List av)) (hg:fX g):∀ (d j:Nat),j+d=g.length->jW g j:=by
 intro d;induction d using Nat.strongRecOn with
 | _ d ih=>exact fun j hj=>pD g hg j (by omega) fun i h1 h2=>ih (g.length - i) (by omega) i (by omega)
end Go.Abs.Wall.Lst
namespace Go.Abs.Wall.Lst
open Go Go.Abs Go.Proofs Go.Abs.Wall
theorem Wa (g:List (List av)) (i:Nat) (k:Nat) (Q:List Wy) (ov:AV) (oh:af) (hq:uf (yH g i) (yH g i).length Q) (hl:Q.length<=2000) (ho:eA Q ov oh):fl g i [k] ((k,.vec (ch .aT ov false))::oh):=by have:=fl.cons (g:=g) (i:=i) (k:=k) (ks:=[]) (h1:=(k,.vec (ch .aT ov false))::([]++oh)) (h2:=[]) ⟨0,false,Q,.aT,[],ov,oh,⟨Ja hq,by simpa using hl,by omega⟩,.inl ⟨by simp,rfl,rfl⟩,ho,rfl⟩ (.nil _);simpa using this
def c147:az:=⟨[0,2,3,4,5,6,7,8,16,17,18,29,30,31,32,45],[11,22],[7],[],[(9,[0,1,2,3,4,5,6,7,8],[]),(11,[0,1,2,3,4,5,6,7,8,9],[])],[55]⟩
theorem Jw (g:List (List av)) (hg:fX g):aB Tryz.prog 147 [.au (Az g (dQ g))] [] (fun v h'=>∃ tb ks nq nv hp,v=.bj tb 0/\ks.length=g.length/\(g=[]\/nv=.sl 1 nq (ks.map mU))/\fl g 0 ks hp/\h'=(tb,gp g (dQ g) nv)::hp):=by
 have OK:=hg.bB;refine aB.post (R:=fun v h'=>∃ tb ks nv nh hp,v=.bj tb 0/\ks.length=g.length/\Out 1 mU ks nv nh/\fl g 0 ks hp/\h'=(tb,gp g (dQ g) nv)::(nh++hp)) ?_ ?_
 ·refine aG (F:=Tryz.f147) c147 rfl rfl rfl mixed rfl fun X=>?_;(conv=>whnf);repeat (intro (nb:Nat);conv=>whnf)
  refine bW rfl mixed [0,3,16,17] [] (fun m r h=>∃ (tb i:Nat) (ks:List Nat) (nv:AV) (nh hp:af),r=[(0,[],.au (Az g (dQ g))),(3,[],.bj tb 0),(16,[],.int .i64 g.length),(17,[],.int .i64 i)]/\h=(tb,gp g (dQ g) nv)::(nh++hp)/\m=g.length - i/\i<=g.length/\ks.length=i/\Out 1 mU ks nv nh/\fl g 0 ks hp) ?_ ?_
  ·(conv=>whnf);exact ⟨_,_,ao.refl _ _,_,nb,0,[],.aT,[],[],by rw [List.length_map];rfl,rfl,rfl,by omega,rfl,.inl ⟨rfl,rfl,rfl⟩,.nil _⟩
  rintro m r h' ⟨tb,i,ks,nv,nh,hp,rfl,rfl,rfl,hi,dW,nS,hN⟩;(conv=>whnf);refine ⟨fun hz=>?_,fun hz=>?_⟩<;>simp at hz
  ·obtain ⟨es,bc⟩:=aL (l:=g) (i:=i) hz;have hE:=hg.aO i es bc;have mq:yH g i=cP g es:=by unfold yH;rw [List.getD_eq_getElem?_getD,bc];rfl
   have Jx:=hg.many i es bc;(conv=>whnf);repeat ((first|refine ix (by assumption) ?_|intro (nb:Nat));conv=>whnf)
   refine bW rfl mixed [0,3,5,16,17,29,30,31] [] (fun m r h=>∃ (j:Nat) (Q:List Wy) (ov:AV) (oh:af) (k:Nat),r=[(0,[],.au (Az g (dQ g))),(3,[],.bj tb 0),(5,[],.bj k 0),(16,[],.int .i64 g.length),(17,[],.int .i64 i),(29,[],.sl 7 none (es.map cz)),(30,[],.int .i64 (es.map cz).length),(31,[],.int .i64 j)]/\h=(tb,gp g (dQ g) nv)::(k,.vec (ch .aT ov false))::(nh++(oh++hp))/\m=es.length - j/\j<=es.length/\uf (cP g es) j Q/\Q.length<=j/\eA Q ov oh) ?_ ?_
   ·(conv=>whnf);exact ⟨_,_,ao.perm (List.Perm.swap _ _ _),_,0,[],.aT,[],nb,rfl,rfl,rfl,by omega,IZ _,by simp,.inl ⟨rfl,rfl,rfl⟩⟩
   rintro m r h' ⟨j,Q,ov,oh,k,rfl,rfl,rfl,hj,sR,OL,dB⟩;(conv=>whnf);refine ⟨fun fU=>?_,fun fU=>?_⟩<;>simp at fU
   ·obtain ⟨x,hx⟩:=aL (l:=es) (i:=j) fU;have jA:=hE x (List.mem_of_getElem? hx);have Jt:=jA.lo;have Ju:=jA.hi;have CH:=jA.cost;have eS:x.to=((x.to.toNat:Nat):Int):=(Int.toNat_of_nonneg (by omega)).symm;have Wb:=yB g x.to.toNat (by omega);have AD:=CA hg (g.length - x.to.toNat) x.to.toNat (by omega);obtain ⟨l,lS,mL⟩:=yF hg bc hx;have pE:=mL 0;(conv=>whnf);repeat ((first|refine ix (by assumption) ?_|(refine dg x.to.toNat eS Wb ?_)|refine ⟨_,_,bo.here _,⟨Nat.le_of_ble_eq_true rfl,rfl⟩,?_⟩|refine And.intro (by show aP (aN Tryz.f147 _) _=true;decide +kernel) ?_|intro (nb:Nat));conv=>whnf)
    cases hw:(du g x.to.toNat)[0]? with
    | none=>
      rw [hw] at AD pE;rw [AD];refine cF rfl ?_;(conv=>whnf);repeat (refine ⟨ah ⟨by omega,by omega⟩,?_⟩;conv=>whnf)
      exact ⟨_,_,ao.refl _ _,_,(by omega),j+1,Q,ov,oh,k,rfl,rfl,rfl,by omega,FL sR lS pE,by omega,dB⟩
    | some w=>
      rw [hw] at AD pE;have CI:=Ay hg (i:=x.to.toNat) (by omega) w (List.mem_of_getElem? hw);have AD:ez g x.to.toNat=w.cost:=AD;rw [AD];refine cT (by simp;omega) ?_;(conv=>whnf);repeat ((first|refine ⟨ah ⟨by omega,by omega⟩,?_⟩|refine And.intro (by show aP (aN Tryz.f147 _) _=true;decide +kernel) ?_);conv=>whnf)
      refine aB.mono ?_ (mV (x:=⟨x.cost+w.cost,j,0⟩) sR.1 (nk:=k) (fv:=.aT) (due:=false) dB (by omega) [(tb,gp g (dQ g) nv)] nh hp);clear dB;rintro v h1 ⟨rfl,ov,oh,dB,rfl⟩;(conv=>whnf);repeat (refine ⟨ah ⟨by omega,by omega⟩,?_⟩;conv=>whnf)
      exact ⟨_,_,ao.refl _ _,_,(by omega),j+1,_,ov,oh,k,rfl,rfl,rfl,by omega,FM sR lS pE,by rw [wM];omega,dB⟩
   have vq:j=es.length:=(by omega);subst vq;have Wc:fl g i [k] ((k,.vec (ch .aT ov false))::oh):=Wa g i k Q ov oh (by rw [mq,Cz];exact sR) (by omega) dB;have OM:=hN.join (by rw [dW,Nat.zero_add];exact Wc);have gQ:(ks.map mU).length=ks.length:=List.length_map _;have sS:∀ (o:Ob) (q:Nat × Ob),((tb,o)::(k,Ob.vec (ch .aT ov false))::q::(oh++hp)).Perm ((tb,o)::([q]++(hp++((k,.vec (ch .aT ov false))::oh)))):=by intro o q;refine List.Perm.cons _ ((List.Perm.swap _ _ _).trans (List.Perm.cons _ ?_));exact List.perm_append_comm (l₁:=(k,Ob.vec (ch .aT ov false))::oh) (l₂:=hp)
   rcases nS with ⟨iO,rfl,rfl⟩|⟨q0,rfl,rfl⟩
   ·subst iO;(conv=>whnf);repeat ((first|refine ⟨ah ⟨by omega,by omega⟩,?_⟩|(refine ⟨Nat.le_of_ble_eq_true rfl,fun q=>?_⟩)|refine ⟨_,_,.head _,rfl,?_⟩|refine ⟨_,_,.there (.here _),aR,?_⟩);conv=>whnf)
    exact ⟨_,_,ao.perm ((List.perm_middle (l₁:=[_,_])).symm.trans (sS _ (q,.tok))),_,(by omega),tb,i+1,[k],.sl 1 (some q) [[.bj k 0]],[(q,.tok)],_,rfl,rfl,rfl,by omega,by simp at dW ⊢;omega,.inr ⟨q,rfl,rfl⟩,OM⟩
   (conv=>whnf);repeat ((first|refine ⟨ah ⟨by omega,by omega⟩,?_⟩|(refine ⟨(by rw [List.length_append,gQ];simp;unfold aU;omega),fun q=>⟨_,.there (.there (.here _)),?_⟩⟩)|refine ⟨_,_,.head _,rfl,?_⟩|refine ⟨_,_,.here _,aR,?_⟩);conv=>whnf)
   exact ⟨_,_,ao.perm (sS _ (q,.tok)),_,(by omega),tb,i+1,ks++[k],.sl 1 (some q) (ks.map mU++[[.bj k 0]]),[(q,.tok)],_,rfl,rfl,rfl,by omega,by rw [List.length_append,dW];rfl,.inr ⟨q,by rw [List.map_append];rfl,rfl⟩,OM⟩
  have:i=g.length:=(by omega);subst this;(conv=>whnf);skip;exact ⟨tb,ks,nv,nh,hp,rfl,dW,nS,hN,rfl⟩
 rintro v h1 ⟨tb,ks,nv,nh,hp,rfl,dW,ho,hN,rfl⟩;refine ⟨.bj tb 0,(tb,gp g (dQ g) nv)::hp,?_,ag.refl _,fun k o hm=>?_,fun hn=>?_⟩
 ·rcases ho with ⟨rfl,rfl,rfl⟩|⟨q,rfl,rfl⟩
  ·exact ⟨tb,[],none,.aT,hp,rfl,dW,.inl (List.eq_nil_of_length_eq_zero dW.symm),hN,rfl⟩
  exact ⟨tb,ks,some q,_,hp,rfl,dW,.inr rfl,hN,rfl⟩
 ·rcases List.mem_cons.1 hm with h|h
  ·rw [h];exact List.mem_cons_self
  exact List.mem_cons_of_mem _ (List.mem_append_right _ h)
 unfold keys at hn ⊢;simp only [List.map_cons,List.map_append,List.nodup_cons,List.mem_append,not_or,List.nodup_append] at hn ⊢;exact ⟨hn.1.2,hn.2.2.1⟩
end Go.Abs.Wall.Lst
