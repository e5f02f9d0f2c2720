/- What is proved: small laws for the walks of this seat, and contracts of its functions. No condition but those each theorem names. -/
import Derived.Test.YtbmcnieifibckaaGreatN14
import Derived.Test.YtbmcnieifibckaaGreatN11
import Derived.Test.YtbmcnieifibckaaGreatN7
set_option maxRecDepth 100000
set_option maxHeartbeats 2000000
set_option linter.unusedVariables false
set_option linter.unusedSimpArgs false
namespace Go.Abs.Wall
open Go Go.Abs Go.Proofs
abbrev nr:=Int × List az
def lD (x:az) (l:List nr):List Int:=l.map fun p=>x.cost+p.1
def kD (es:List az) (T:az->List nr) (w:Wy):nr:=match es[w.aP]? with
 | none=>(w.cost,[])
 | some x=>(w.cost,x::((T x).getD w.aO (0,[])).2)
def xO (T:List (List nr)) (x:az):List nr:=T.getD (x.word.aj.length - 1) []
def rT:List (List az)->List (List nr)
 | []=>[[(0,[])]]
 | es::g=>((aY (es.map fun x=>lD x (xO (rT g) x))).map (kD es (xO (rT g))))::rT g
def bu (g:List (List az)) (i:Nat):List nr:=(rT (g.drop i)).headD []
theorem MP:∀ (g:List (List az)) (i:Nat),i<=g.length->(rT g)[i]?=some (bu g i)
 | [],i,h=>by have:i=0:=(by simpa using h);subst this;rfl
 | es::g,0,_=>by simp [rT,bu]
 | es::g,i+1,h=>by have:=MP g i (by simpa using h);simp only [rT,List.getElem?_cons_succ];rw [this];rfl
theorem Ud (g:List (List az)) (a i:Nat):bu (g.drop a) i=bu g (a+i):=by unfold bu;rw [List.drop_drop]
theorem vW (g:List (List az)):bu g g.length=[(0,[])]:=by unfold bu;rw [List.drop_length];rfl
theorem MQ {g:List (List az)} {i:Nat} {x:az} (hx:DX g.length i x):xO (rT (g.drop (i+1))) x=bu g x.to.toNat:=by have h1:=hx.lo;have h2:=hx.hi;have h3:=hx.to;unfold xO;have h4:=MP (g.drop (i+1)) (x.word.aj.length - 1) (by rw [List.length_drop];omega);rw [Ud,show i+1+(x.word.aj.length - 1)=x.to.toNat by omega] at h4;rw [List.getD_eq_getElem?_getD,h4];rfl
def dh (g:List (List az)) (es:List az):List (List Int):=es.map fun x=>lD x (bu g x.to.toNat)
def fj (g:List (List az)) (i:Nat):List Wy:=match g[i]? with
 | none=>[⟨0,0,0⟩]
 | some es=>aY (dh g es)
theorem Ue {es:List az} {T T':az->List nr} (h:∀ x∈es,T x=T' x) (w:Wy):kD es T w=kD es T' w:=by
 unfold kD;cases hx:es[w.aP]? with
 | none=>rfl
 | some x=>simp only [h x (List.mem_of_getElem? hx)]
theorem uC {g:List (List az)} {i:Nat} {es:List az} (h:g[i]?=some es) (hx:∀ x∈es,DX g.length i x) :
  bu g i=(aY (dh g es)).map (kD es fun x=>bu g x.to.toNat):=by
 have e1:bu g i=(aY (es.map fun x=>lD x (xO (rT (g.drop (i+1))) x))).map (kD es (xO (rT (g.drop (i+1))))):=by unfold bu;rw [drop_cons h];rfl
 have e2:(es.map fun x=>lD x (xO (rT (g.drop (i+1))) x))=dh g es:=by unfold dh;exact List.map_congr_left fun x hm=>by rw [MQ (hx x hm)]
 rw [e1,e2];exact List.map_congr_left fun w _=>Ue (fun x hm=>MQ (hx x hm)) w
theorem Hw {es:List az} {T:az->List nr} {w:Wy}:(kD es T w).1=w.cost:=by unfold kD;cases es[w.aP]?<;>rfl
theorem zo {g:List (List az)} (hg:gV g) {i:Nat} (hi:i<=g.length) (r:Nat):((bu g i)[r]?).map (·.1)=((fj g i)[r]?).map (·.cost):=by
 by_cases h:i<g.length
 ·obtain ⟨es,bp⟩:=aN h;rw [uC bp (hg.aP i es bp)];unfold fj;rw [bp];simp only [List.getElem?_map,Option.map_map];congr 1;funext w;exact Hw
 have:i=g.length:=(by omega);subst this;rw [vW];unfold fj;rw [List.getElem?_eq_none (Nat.le_refl _)];cases r<;>simp
theorem Bz {g:List (List az)} (hg:gV g) {i:Nat} {es:List az} (bp:g[i]?=some es) {k:Nat} {x:az} (hx:es[k]?=some x) :
  ∃ l:List Int,(dh g es)[k]?=some l/\∀ r:Nat,l[r]?=((fj g x.to.toNat)[r]?).map (fun (w:Wy)=>x.cost+w.cost):=by
 have ho:=hg.aP i es bp x (List.mem_of_getElem? hx);refine ⟨lD x (bu g x.to.toNat),by unfold dh;rw [List.getElem?_map,hx];rfl,fun r=>?_⟩;have:=zo hg (i:=x.to.toNat) (by have:=ho.hi;omega) r;unfold lD;rw [List.getElem?_map];have e:∀ o:Option nr,o.map (fun p=>x.cost+p.1)=(o.map (·.1)).map fun c=>x.cost+c:=fun o=>by cases o<;>rfl
 rw [e,this];cases (fj g x.to.toNat)[r]?<;>rfl
theorem Eg (g:List (List az)) (es:List az):(dh g es).length=es.length:=by simp [dh]
theorem MR {g:List (List az)} (hg:gV g):∀ (d i:Nat),i+d=g.length->∀ p∈bu g i,0<=p.1/\p.1<=18000*(d:Int):=by
 intro d;induction d using Nat.strongRecOn with
 | _ d ih=>
   intro i hi p hp;by_cases h:i<g.length
   ·obtain ⟨es,bp⟩:=aN h;have hE:=hg.aP i es bp;rw [uC bp hE,List.mem_map] at hp;obtain ⟨w,hw,rfl⟩:=hp;rw [Hw];obtain ⟨t,ht⟩:=List.mem_iff_getElem?.1 hw;obtain ⟨_,l,h2,h3⟩:=iN ht;unfold dh at h2;rw [List.getElem?_map] at h2;cases hx:es[w.aP]? with
    | none=>rw [hx] at h2;cases h2
    | some x=>
      rw [hx] at h2;cases h2
      have ho:=hE x (List.mem_of_getElem? hx);unfold lD at h3;rw [List.getElem?_map] at h3;cases hq:(bu g x.to.toNat)[w.aO]? with
      | none=>rw [hq] at h3;cases h3
      | some q=>
        rw [hq] at h3;have h3:x.cost+q.1=w.cost:=(by simpa using h3);have h5:=ho.lo;have h6:=ho.hi;have h7:=ho.cost;have:=ih (g.length - x.to.toNat) (by omega) x.to.toNat (by omega) q (List.mem_of_getElem? hq);omega
   have:i=g.length:=(by omega);subst this;rw [vW] at hp;simp at hp;subst hp;simp;omega
theorem Hx {g:List (List az)} (hg:gV g) {i:Nat} (hi:i<=g.length):∀ w∈fj g i,0<=w.cost/\w.cost<=1080000:=by
 intro w hw;obtain ⟨t,ht⟩:=List.mem_iff_getElem?.1 hw;have:=zo hg hi t;rw [ht] at this;cases hq:(bu g i)[t]? with
 | none=>rw [hq] at this;cases this
 | some p=>
   rw [hq] at this;have hc:p.1=w.cost:=(by simpa using this);have h1:=MR hg (g.length - i) i (by omega) p (List.mem_of_getElem? hq);have:=hg.bE;omega
theorem MS (t:List Int) (v:az->Int):∀ (es:List az) (r:Int),(∀ x∈es,t.getD (x.word.aj.length - 1) 0=v x)->(∀ x∈es,-1<=v x/\0<=x.cost)->-1<=r ->
  (es.foldl (jC t) r=r\/∃ x∈es,v x≠-1/\es.foldl (jC t) r=x.cost+v x)/\(r≠-1->es.foldl (jC t) r≠-1/\es.foldl (jC t) r<=r)/\(∀ x∈es,v x≠-1->es.foldl (jC t) r≠-1/\es.foldl (jC t) r<=x.cost+v x)
 | [],r,_,_,_=>⟨.inl rfl,fun h=>⟨h,Int.le_refl _⟩,fun x hx=>by cases hx⟩
 | x::es,r,hv,hc,hr=>by
   rw [List.foldl_cons];have hq:jC t r x=rU (v x) r x.cost:=by unfold jC;rw [hv x (by simp)]
   have jD:=hc x (by simp);obtain ⟨r',ti⟩:∃ r',r'=jC t r x:=⟨_,rfl⟩;rw [<- ti]
   have aA:(r'=r\/v x≠-1/\r'=x.cost+v x)/\(r≠-1->r'≠-1/\r'<=r)/\(v x≠-1->r'≠-1/\r'<=x.cost+v x):=by
    rw [ti,hq];unfold rU;split
    ·rename_i h;simp at h;refine ⟨.inr ⟨h.1,rfl⟩,fun h2=>?_,fun h2=>?_⟩<;>omega
    rename_i h;simp at h;refine ⟨.inl rfl,fun h2=>⟨h2,Int.le_refl _⟩,fun h2=>?_⟩;have:=h h2;omega
   obtain ⟨s1,s2,s3⟩:=aA;obtain ⟨h1,h2,h3⟩:=MS t v es r' (fun y hy=>hv y (by simp [hy])) (fun y hy=>hc y (by simp [hy])) (by rcases s1 with e|⟨e1,e2⟩<;>omega)
   obtain ⟨z,hz⟩:∃ z,z=es.foldl (jC t) r':=⟨_,rfl⟩;rw [<- hz] at h1 h2 h3 ⊢;refine ⟨?_,fun hn=>?_,fun y hy MT=>?_⟩
   ·rcases h1 with e|⟨y,hy,e⟩
    ·rcases s1 with e2|⟨e2,e3⟩
     ·exact .inl (e.trans e2)
     exact .inr ⟨x,by simp,e2,e.trans e3⟩
    exact .inr ⟨y,by simp [hy],e⟩
   ·obtain ⟨a,b⟩:=s2 hn;obtain ⟨c,d⟩:=h2 a;exact ⟨c,by omega⟩
   rcases List.mem_cons.1 hy with rfl|hy
   ·obtain ⟨a,b⟩:=s3 MT;obtain ⟨c,d⟩:=h2 a;exact ⟨c,by omega⟩
   exact h3 y hy MT
theorem Uf {g:List (List az)} {i:Nat} {es:List az} (h:g[i]?=some es):ij g i=es.foldl (jC (dJ (g.drop (i+1)))) (-1):=by unfold ij;rw [drop_cons h];rfl
theorem Ug {g:List (List az)} (hg:gV g):∀ (d i:Nat),i+d=g.length->ij g i=match (fj g i)[0]? with
  | none=>-1
  | some w=>w.cost:=by
 intro d;induction d using Nat.strongRecOn with
 | _ d ih=>
   intro i hi;by_cases h:i<g.length
   ·obtain ⟨es,bp⟩:=aN h;have hE:=hg.aP i es bp;have gz:∀ x∈es,(dJ (g.drop (i+1))).getD (x.word.aj.length - 1) 0=ij g x.to.toNat:=by intro x hx;have ho:=hE x hx;have h1:=ho.lo;have h2:=ho.hi;have h3:=ho.to;have h4:=xN (g.drop (i+1)) (x.word.aj.length - 1) (by rw [List.length_drop];omega);rw [Hy,show i+1+(x.word.aj.length - 1)=x.to.toNat by omega] at h4;rw [List.getD_eq_getElem?_getD,h4];rfl
    have Eh:∀ x∈es,ij g x.to.toNat=match (fj g x.to.toNat)[0]? with
      | none=>-1
      | some w=>w.cost:=by
     intro x hx;have ho:=hE x hx;have h1:=ho.lo;have h2:=ho.hi;exact ih (g.length - x.to.toNat) (by omega) _ (by omega)
    have eF:∀ x∈es,∀ w,(fj g x.to.toNat)[0]?=some w->0<=w.cost:=by intro x hx w hw;exact (Hx hg (by have:=(hE x hx).hi;omega) w (List.mem_of_getElem? hw)).1
    have Uh:∀ x∈es,-1<=ij g x.to.toNat/\0<=x.cost:=by
     intro x hx;refine ⟨?_,(hE x hx).cost.1⟩;rw [Eh x hx];cases hw:(fj g x.to.toNat)[0]? with
     | none=>simp
     | some w=>have:=eF x hx w hw;simp only;omega
    obtain ⟨f1,f2,f3⟩:=MS (dJ (g.drop (i+1))) (fun x=>ij g x.to.toNat) es (-1) gz Uh (by omega);rw [Uf bp];obtain ⟨z,hz⟩:∃ z,z=es.foldl (jC (dJ (g.drop (i+1)))) (-1):=⟨_,rfl⟩;rw [<- hz] at f1 f3 ⊢;have me:fj g i=aY (dh g es):=by unfold fj;rw [bp]
    rw [me,mc]
    have uD:∀ y,ik (dh g es) (cX (dh g es) 0) y↔∃ x w,es[y.aP]?=some x/\(fj g x.to.toNat)[0]?=some w/\y.cost=x.cost+w.cost/\y.aO=0:=by
     intro y;constructor
     ·rintro ⟨q1,l,q2,q3⟩;have q1:y.aO=0:=q1;rw [q1] at q3;have aL:=(List.getElem?_eq_some_iff.1 q2).1;rw [Eg] at aL;obtain ⟨x,hx⟩:=aN aL;obtain ⟨l',e1,e2⟩:=Bz hg bp hx;rw [q2] at e1;cases e1
      rw [e2] at q3;cases hw:(fj g x.to.toNat)[0]? with
      | none=>rw [hw] at q3;cases q3
      | some w=>rw [hw] at q3;exact ⟨x,w,hx,hw,by simpa using q3.symm,q1⟩
     rintro ⟨x,w,hx,hw,hc,h0⟩;obtain ⟨l',e1,e2⟩:=Bz hg bp hx;exact ⟨h0,l',e1,by rw [h0,e2,hw,hc];rfl⟩
    cases hb:gK (dh g es) (cX (dh g es) 0) with
    | none=>
      rcases f1 with e|⟨x,hx,hv,e⟩
      ·exact e
      obtain ⟨k,hk⟩:=List.mem_iff_getElem?.1 hx;rw [Eh x hx] at hv;cases hw:(fj g x.to.toNat)[0]? with
      | none=>rw [hw] at hv;exact absurd rfl hv
      | some w=>exact absurd ((uD ⟨x.cost+w.cost,k,0⟩).2 ⟨x,w,hk,hw,rfl,rfl⟩) (Hg hb _)
    | some y=>
      obtain ⟨b1,b2⟩:=zk hb;obtain ⟨x,w,hx,hw,hc,h0⟩:=(uD y).1 b1;have tz:=List.mem_of_getElem? hx;have gb:ij g x.to.toNat=w.cost:=(by rw [Eh x tz,hw]);have N7:=eF x tz w hw;obtain ⟨g1,g2⟩:=f3 x tz (by omega);simp only at g2 ⊢;rcases f1 with e|⟨x',iJ,uj,e⟩
      ·exact absurd e g1
      obtain ⟨k,hk⟩:=List.mem_iff_getElem?.1 iJ;rw [Eh x' iJ] at uj e;cases nu:(fj g x'.to.toNat)[0]? with
      | none=>rw [nu] at uj;exact absurd rfl uj
      | some w'=>
        rw [nu] at e;have hm:=b2 ⟨x'.cost+w'.cost,k,0⟩ ((uD _).2 ⟨x',w',hk,nu,rfl,rfl⟩);rcases hm with e2|hl
        ·have:x'.cost+w'.cost=y.cost:=(by rw [<- e2]);simp only at e;omega
        unfold cW at hl;simp only at hl e;omega
   have:i=g.length:=(by omega);subst this;rw [MU];unfold fj;rw [List.getElem?_eq_none (Nat.le_refl _)];rfl
end Go.Abs.Wall
namespace Go.Abs.Wall.Lst
open Go Go.Abs Go.Proofs Go.Abs.Wall
structure oY (cls:List (List Int)) (t:Nat) (due:Bool) (Q:List Wy):Prop where
 ok:np cls t due Q
 bE:Q.length+(if due=true then 1 else 0)<=2000
 asked:t<=65
def qT (cls:List (List Int)) (nk:Nat) (hp:ab):Prop:=∃ t due Q fv fh ov oh,oY cls t due Q/\Out 3 al ((aY cls).take t) fv fh/\ef Q ov oh/\hp=(nk,.vec (cg fv ov due))::(fh++oh)
def xP (g:List (List az)) (i:Nat):List (List Int):=dh g (g.getD i [])
inductive eS (g:List (List az)):Nat->List Nat->ab->Prop
 | nil (i:Nat):eS g i [] []
 | cons {i k:Nat} {ks:List Nat} {h1 h2:ab}:qT (xP g i) k h1->eS g (i+1) ks h2->eS g i (k::ks) (h1++h2)
theorem eS.split {g:List (List az)}:∀ {i:Nat} {ks:List Nat} {hp:ab} (n:Nat),eS g i ks hp->n<=ks.length->∃ hA hB,hp=hA++hB/\eS g i (ks.take n) hA/\eS g (i+n) (ks.drop n) hB
 | i,ks,hp,0,h,_=>⟨[],hp,rfl,by simpa using .nil i,by simpa using h⟩
 | i,_,_,n+1,.nil _,hn=>by simp at hn
 | i,_,_,n+1,.cons (k:=k) (ks:=ks) (h1:=h1) (h2:=h2) nX tA,hn=>by obtain ⟨hA,hB,rfl,e1,e2⟩:=eS.split n tA (by simpa using hn);refine ⟨h1++hA,hB,by rw [List.append_assoc],.cons nX e1,?_⟩;rw [show i+(n+1)=i+1+n by omega];exact e2
theorem eS.join {g:List (List az)}:∀ {i:Nat} {ks Ei:List Nat} {hA hB:ab},eS g i ks hA->eS g (i+ks.length) Ei hB->eS g i (ks++Ei) (hA++hB)
 | i,_,Ei,_,hB,.nil _,h2=>by simpa using h2
 | i,_,Ei,_,hB,.cons (k:=k) (ks:=ks) (h1:=h1) (h2:=h2) nX tA,h3=>by rw [List.append_assoc];refine .cons nX (eS.join tA ?_);rw [show i+1+ks.length=i+(k::ks).length by simp;omega];exact h3
def rV:Wy:=⟨0,0,0⟩
def bW (g:List (List az)) (i aO:Nat):AV:=match (fj g i)[aO]? with
 | some w=>.aQ [.agg (al w),.bool true]
 | none=>.aQ [.agg (al rV),.bool false]
def mC (k:Nat):List AV:=[.bn k 0]
def fU (g:List (List az)) (R:List Int) (nv:AV):Ob:=.vec [.au (zp g R),nv]
def jE (g:List (List az)) (at_:Nat):Prop:=
 ∀ (tb:Nat) (R:List Int) (pre ks:List Nat) (nq:Option Nat) (nv:AV) (aO:Nat) (hp:ab),pre.length=at_->(pre++ks).length=g.length->(g=[]\/nv=.sl 1 nq ((pre++ks).map mC))->eS g at_ ks hp->aO<=64 ->
  ay Tryz.prog 216 [.bn tb 0,.int .i64 at_,.int .i64 aO] ((tb,fU g R nv)::hp) (fun v h'=>v=bW g at_ aO/\∃ aZ,eS g at_ ks aZ/\h'=(tb,fU g R nv)::aZ)
theorem uE {cls:List (List Int)} {t r:Nat} (h:(aY cls)[t]?=none) (hr:t<=r):(aY cls)[r]?=none:=by rw [List.getElem?_eq_none_iff] at h ⊢;omega
theorem take_one {cls:List (List Int)} {t:Nat} {x:Wy} (h:(aY cls)[t]?=some x):(aY cls).take (t+1)=(aY cls).take t++[x]:=dg h
theorem Out.len {α:Type} {k:Nat} {enc:α->List AV} {o:List α} {v:AV} {hp:ab} (h:Out k enc o v hp):lenOf? v=some o.length:=by
 rcases h with ⟨rfl,rfl,rfl⟩|⟨q,rfl,rfl⟩
 ·rfl
 simp [lenOf?]
theorem BA {a b c:Nat × Ob} {fh oh h2:ab}:(a::b::c::(fh++(oh++h2))).Perm (a::b::((c::(fh++oh))++h2)):=by rw [List.cons_append,List.append_assoc]
theorem Hz {A B C D:ab}:(D++(A++(B++C))).Perm (A++(B++(C++D))):=by have h:A++(B++(C++D))=(A++(B++C))++D:=(by simp [List.append_assoc]);rw [h];exact List.perm_append_comm
theorem MV {A B C D:ab}:(D++(A++(B++C))).Perm (A++(B++(D++C))):=by have h:A++(B++(D++C))=(A++B)++(D++C):=(by simp [List.append_assoc]);have h2:D++(A++(B++C))=D++((A++B)++C):=(by simp [List.append_assoc]);rw [h,h2];exact List.perm_append_comm_assoc _ _ _
theorem og {g:List (List az)} {at_ j:Nat} (IH:jE g j) (hj:at_<j) (er:j<=g.length) {tb:Nat} {R:List Int} {pre ks:List Nat} {k:Nat} {nq:Option Nat} (dN:pre.length=at_) (dX:(pre++k::ks).length=g.length) {aO:Nat} (hr:aO<=64) {h2:ab} (hn:eS g (at_+1) ks h2) (A B:ab) :
  ay Tryz.prog 216 [.bn tb 0,.int .i64 j,.int .i64 aO] (A++(tb,fU g R (.sl 1 nq ((pre++k::ks).map mC)))::(B++h2))
   (fun v H'=>v=bW g j aO/\∃ tA,eS g (at_+1) ks tA/\H'=A++(tb,fU g R (.sl 1 nq ((pre++k::ks).map mC)))::(B++tA)):=by
 rw [List.length_append,List.length_cons] at dX;obtain ⟨m,rfl⟩:∃ m,j=at_+1+m:=⟨j - (at_+1),by omega⟩;obtain ⟨hA,hB,rfl,nA,nB⟩:=hn.split m (by omega);have he:(pre++k::ks.take m)++ks.drop m=pre++k::ks:=(by rw [List.append_assoc,List.cons_append,List.take_append_drop]);have gx:(ks.take m).length=m:=by rw [List.length_take];omega
 have h1:=IH tb R (pre++k::ks.take m) (ks.drop m) nq (.sl 1 nq ((pre++k::ks).map mC)) aO hB (by rw [List.length_append,List.length_cons,gx];omega) (by rw [he,List.length_append,List.length_cons];omega) (.inr (by rw [he])) nB hr;refine ay.re h1 (h2:=A++(B++hA)) ?_ ?_
 ·have p1:((tb,fU g R (.sl 1 nq ((pre++k::ks).map mC)))::hB++(A++(B++hA))).Perm ((tb,fU g R (.sl 1 nq ((pre++k::ks).map mC)))::(A++(B++(hA++hB)))):=by
   exact List.Perm.cons _ Hz
  exact p1.trans List.perm_middle.symm
 rintro v h3 ⟨rfl,aZ,jj,rfl⟩;refine ⟨_,?_,rfl,hA++aZ,?_,rfl⟩
 ·have p1:((tb,fU g R (.sl 1 nq ((pre++k::ks).map mC)))::aZ++(A++(B++hA))).Perm ((tb,fU g R (.sl 1 nq ((pre++k::ks).map mC)))::(A++(B++(hA++aZ)))):=by
   exact List.Perm.cons _ Hz
  exact p1.trans List.perm_middle.symm
 have:=eS.join nA (by rw [gx];exact jj);rwa [List.take_append_drop] at this
theorem mD {x:Wy} {Q:List Wy} (hs:Q.Pairwise cW) {nk:Nat} {fv:AV} {due:Bool} {ov:AV} {oh:ab} (ho:ef Q ov oh) (hl:Q.length<=65536) (A B C:ab) :
  ay Tryz.prog 215 [.bn nk 1,.agg (al x)] (A++(nk,.vec (cg fv ov due))::(B++(oh++C)))
   (fun v H'=>v=.aQ []/\∃ iq iu,ef (il x Q) iq iu/\H'=A++(nk,.vec (cg fv iq due))::(B++(iu++C))):=by
 have key:∀ (o:Nat × Ob) (oh:ab),(o::oh++(A++(B++C))).Perm (A++o::(B++(oh++C))):=by intro o oh;refine List.Perm.trans ?_ List.perm_middle.symm;exact List.Perm.cons _ MV
 refine ay.re (lC x Q hs nk fv due ov oh ho hl) (key _ _) ?_;rintro v h3 ⟨rfl,iq,iu,bD,rfl⟩;exact ⟨_,key _ _,rfl,iq,iu,bD,rfl⟩
def c216:aw:=⟨[0,1,2,6,7,8,9,10,11,12,22,39,43,83,105],[],[9,10,11],[],[(7,[0,1,2,3,4,5,6,7,8,9,10,11,12,13],[9]),(8,[0,1,2,3,4,5,6,7,8,9,10,11,12,13,14,15],[10]),(11,[0,1,2,3,4,5,6,7,8,9,10,11,12,13,14],[]),(14,[0,1,2,3,4,5,6,7,8,9,10,11,12,13,14,15,16],[])],[98]⟩
set_option maxHeartbeats 2000000 in
theorem oZ (g:List (List az)) (hg:gV g) (at_:Nat) (cR:at_<=g.length) (IH:∀ j,at_<j->j<=g.length->jE g j):jE g at_:=by
 intro tb R pre ks nq nv aO hp dN dX BB hN hr;have MW:=hg.bE;refine ay.post (R:=fun v h'=>v=bW g at_ aO/\∃ aZ,eS g at_ ks aZ/\∃ rb o,h'.Perm ((rb,o)::(tb,fU g R nv)::aZ)) ?_ ?_
 ·by_cases he:at_=g.length
  ·have me:fj g at_=[rV]:=by unfold fj;rw [he,List.getElem?_eq_none (Nat.le_refl _)];rfl
   refine aG (F:=Tryz.f216) c216 rfl rfl rfl mixed rfl fun X=>?_;(conv=>whnf);repeat ((first|refine ⟨_,_,.tail _ (.head _),rfl,?_⟩|intro (nb:Nat));conv=>whnf)
   refine cT (by simp;omega) ?_;(conv=>whnf);repeat ((first|refine ⟨_,_,.head _,rfl,?_⟩|refine ⟨_,_,.here _,aF,?_⟩);conv=>whnf)
   refine ⟨?_,hp,hN,nb,_,.refl _⟩;unfold bW;rw [me];cases aO with
   | zero=>rfl
   | succ r=>rfl
  have BC:at_<g.length:=(by omega);obtain ⟨es,bp⟩:=aN BC;have hE:=hg.aP at_ es bp;have me:fj g at_=aY (dh g es):=by unfold fj;rw [bp]
  have jF:xP g at_=dh g es:=by unfold xP;rw [List.getD_eq_getElem?_getD,bp];rfl
  cases hN with
  | nil=>rw [List.append_nil] at dX;omega
  | cons jh dx=>
  rename_i k ks h1 h2
  have Ui:nv=.sl 1 nq ((pre++k::ks).map mC):=by
   rcases BB with h|h
   ·rw [h] at BC;simp at BC
   exact h
  subst Ui;have N8:(pre++k::ks)[at_]?=some k:=by rw [<- dN];simp
  unfold qT at jh;rw [jF] at jh;obtain ⟨t0,HA,Q0,HB,HD,zq,zr,xE,BD,BE,rfl⟩:=jh;refine aG (F:=Tryz.f216) c216 rfl rfl rfl mixed rfl fun X=>?_;(conv=>whnf);repeat ((first|refine ⟨_,_,.tail _ (.head _),rfl,?_⟩|intro (nb:Nat));conv=>whnf)
  refine cF (by simp;omega) ?_;(conv=>whnf);repeat ((first|refine ix (by assumption) ?_|refine ⟨_,_,.tail _ (.head _),rfl,?_⟩);conv=>whnf)
  refine cy rfl mixed [0,1,2,6,8] [] (fun m r h=>∃ (t:Nat) (due:Bool) (Q:List Wy) (fv:AV) (fh:ab) (ov:AV) (oh h2:ab) (rb:Nat),r=[(0,[],.bn tb 0),(1,[],.int .i64 at_),(2,[],.int .i64 aO),(6,[],.bn rb 0),(8,[],.bn k 0)]/\h=(rb,.vec (al rV))::(tb,fU g R (.sl 1 nq ((pre++k::ks).map mC)))::(k,.vec (cg fv ov due))::(fh++(oh++h2))/\m=66 - t/\oY (dh g es) t due Q/\Out 3 al ((aY (dh g es)).take t) fv fh/\ef Q ov oh/\eS g (at_+1) ks h2) ?_ ?_
  ·(conv=>whnf);refine ⟨_,_,ar.refl _ _,_,t0,HA,Q0,HB,HD,zq,zr,h2,nb,rfl,?_,rfl,xE,BD,BE,dx⟩;rw [List.cons_append,List.append_assoc];rfl
  clear xE BD BE dx;rintro m r h' ⟨t,due,Q,fv,fh,ov,oh,h2,rb,rfl,rfl,rfl,bf,oa,dp,dx⟩;have gx:=bf.ok.le;have qU:=oa;have hlen:((aY (dh g es)).take t).length=t:=by rw [List.length_take];omega
  have jb:(((aY (dh g es)).take t).map al).length=t:=by rw [List.length_map];exact hlen
  have Uj:=bf.asked;rcases oa with ⟨hF,rfl,rfl⟩|⟨q,rfl,rfl⟩
  ·have HE:t=0:=by rw [hF] at hlen;exact hlen.symm
   have HF:due=false:=by
    cases due with
    | false=>rfl
    | true=>have:=bf.ok.pos rfl;omega
   subst HF;have nw:t<=aO:=(by omega);(conv=>whnf);repeat ((refine ⟨_,_,.tail _ (.tail _ (.head _)),rfl,?_⟩);conv=>whnf)
   refine cT (by simp) ?_;(conv=>whnf);repeat ((refine ⟨_,_,.tail _ (.tail _ (.head _)),rfl,?_⟩);conv=>whnf)
   refine cF rfl ?_;cases hQ:Q with
   | nil=>
     subst hQ;have dy:bW g at_ aO=.aQ [.agg (al rV),.bool false]:=by unfold bW;rw [me,uE bf.ok.empty nw]
     have xQ:=dp;rcases dp with ⟨_,rfl,rfl⟩|⟨ob,pr,rfl,rfl⟩
     all_goals
      (conv=>whnf);repeat ((refine ⟨_,_,.tail _ (.tail _ (.head _)),rfl,?_⟩);conv=>whnf)
      refine cT rfl ?_;(conv=>whnf);repeat ((first|(refine ⟨_,_,.here _,aF,?_⟩)|refine ⟨_,_,.head _,rfl,?_⟩);conv=>whnf)
      refine ⟨dy.symm,_,.cons ⟨t,false,[],_,_,_,_,by rw [jF];exact bf,by rw [jF];exact qU,xQ,rfl⟩ dx,rb,_,by first|exact BA|exact .refl _|(refine List.Perm.of_eq ?_;simp)⟩
   | cons x Q'=>
     rcases dp with ⟨h0,rfl,rfl⟩|⟨ob,pr,rfl,rfl⟩
     ·rw [hQ] at h0;cases h0
     subst hQ;obtain ⟨hx,fw⟩:=bf.ok.pop;have ch:=take_one hx;have dI:=bf.bE;have uF:(x::Q').length=Q'.length+1:=rfl;have vX:((aY (dh g es)).take t).length<=65:=(by omega);(conv=>whnf);repeat ((refine ⟨_,_,.tail _ (.tail _ (.head _)),rfl,?_⟩);conv=>whnf)
     refine cF (decide_eq_false (by omega)) ?_;(conv=>whnf);repeat ((first|(refine ⟨_,_,.tail _ (.tail _ (.head _)),rfl,?_⟩)|(refine ⟨0,af ⟨rfl,by omega⟩,?_⟩)|(refine oe (i:=0) da (.tail _ (.tail _ (.tail _ (.head _)))) rfl rfl ?_)|refine And.intro (by show aJ (aH Tryz.f216 _) _=true;decide +kernel) ?_);conv=>whnf)
     first|refine ⟨Nat.le_of_ble_eq_true rfl,fun q'=>?_⟩|refine ⟨(by simp;unfold aV;omega),fun q'=>⟨_,.there (.there (.there (.here _))),?_⟩⟩
     (conv=>whnf);repeat ((first|refine ⟨af ⟨by omega,by omega⟩,?_⟩|(refine ⟨_,_,.there (.there (.there (.here _))),aF,?_⟩)|(refine ⟨_,_,.tail _ (.tail _ (.tail _ (.head _))),rfl,?_⟩));conv=>whnf)
     have e1:pr.length+Int.toNat 1*3=(pr++al x).length:=by rw [List.length_append];rfl
     have e2:(((x::Q').length:Nat):Int).toNat - Int.toNat 1=Q'.length:=by rw [Int.toNat_natCast];rfl
     have e3:pr++((x::Q').map al).flatten=(pr++al x)++(Q'.map al).flatten:=(by simp);have gW:Q'.length+(if true=true then 1 else 0)<=2000:=by simp at dI ⊢;omega
     rw [e1,e2,e3]
     first
      | exact ⟨_,_,ar.refl _ _,_,(by omega),t+1,true,Q',_,[(q',.tok)],_,[(ob,_)],h2,rb,rfl,rfl,rfl,⟨fw,gW,by omega⟩,.inr ⟨q',by rw [ch,List.map_append];rfl,rfl⟩,.inr ⟨ob,pr++al x,rfl,rfl⟩,dx⟩
      | exact ⟨_,_,ar.perm (List.perm_middle (l₁:=[_,_,_])).symm,_,(by omega),t+1,true,Q',_,[(q',.tok)],_,[(ob,_)],h2,rb,rfl,rfl,rfl,⟨fw,gW,by omega⟩,.inr ⟨q',by rw [ch,hF];rfl,rfl⟩,.inr ⟨ob,pr++al x,rfl,rfl⟩,dx⟩
  (conv=>whnf);repeat ((refine ⟨_,_,.tail _ (.tail _ (.head _)),rfl,?_⟩);conv=>whnf)
  refine ⟨fun hz=>?_,fun hz=>?_⟩<;>simp at hz
  ·have nw:t<=aO:=(by omega);cases due with
   | false=>
     (conv=>whnf);repeat ((refine ⟨_,_,.tail _ (.tail _ (.head _)),rfl,?_⟩);conv=>whnf)
     refine cF rfl ?_;cases hQ:Q with
     | nil=>
       subst hQ;have dy:bW g at_ aO=.aQ [.agg (al rV),.bool false]:=by unfold bW;rw [me,uE bf.ok.empty nw]
       have xQ:=dp;rcases dp with ⟨_,rfl,rfl⟩|⟨ob,pr,rfl,rfl⟩
       all_goals
        (conv=>whnf);repeat ((refine ⟨_,_,.tail _ (.tail _ (.head _)),rfl,?_⟩);conv=>whnf)
        refine cT rfl ?_;(conv=>whnf);repeat ((first|(refine ⟨_,_,.here _,aF,?_⟩)|refine ⟨_,_,.head _,rfl,?_⟩);conv=>whnf)
        refine ⟨dy.symm,_,.cons ⟨t,false,[],_,_,_,_,by rw [jF];exact bf,by rw [jF];exact qU,xQ,rfl⟩ dx,rb,_,by first|exact BA|exact .refl _|(refine List.Perm.of_eq ?_;simp)⟩
     | cons x Q'=>
       rcases dp with ⟨h0,rfl,rfl⟩|⟨ob,pr,rfl,rfl⟩
       ·rw [hQ] at h0;cases h0
       subst hQ;obtain ⟨hx,fw⟩:=bf.ok.pop;have ch:=take_one hx;have dI:=bf.bE;have uF:(x::Q').length=Q'.length+1:=rfl;have vX:((aY (dh g es)).take t).length<=65:=(by omega);(conv=>whnf);repeat ((refine ⟨_,_,.tail _ (.tail _ (.head _)),rfl,?_⟩);conv=>whnf)
       refine cF (decide_eq_false (by omega)) ?_;(conv=>whnf);repeat ((first|(refine ⟨_,_,.tail _ (.tail _ (.head _)),rfl,?_⟩)|(refine ⟨0,af ⟨rfl,by omega⟩,?_⟩)|(refine oe (i:=0) da (.tail _ (.tail _ (.tail _ (.tail _ (.head _))))) rfl rfl ?_)|refine And.intro (by show aJ (aH Tryz.f216 _) _=true;decide +kernel) ?_);conv=>whnf)
       first|refine ⟨Nat.le_of_ble_eq_true rfl,fun q'=>?_⟩|refine ⟨(by simp;unfold aV;omega),fun q'=>⟨_,.there (.there (.there (.here _))),?_⟩⟩
       (conv=>whnf);repeat ((first|refine ⟨af ⟨by omega,by omega⟩,?_⟩|(refine ⟨_,_,.there (.there (.here _)),aF,?_⟩)|(refine ⟨_,_,.tail _ (.tail _ (.head _)),rfl,?_⟩));conv=>whnf)
       have e1:pr.length+Int.toNat 1*3=(pr++al x).length:=by rw [List.length_append];rfl
       have e2:(((x::Q').length:Nat):Int).toNat - Int.toNat 1=Q'.length:=by rw [Int.toNat_natCast];rfl
       have e3:pr++((x::Q').map al).flatten=(pr++al x)++(Q'.map al).flatten:=(by simp);have gW:Q'.length+(if true=true then 1 else 0)<=2000:=by simp at dI ⊢;omega
       rw [e1,e2,e3]
       first
        | exact ⟨_,_,ar.refl _ _,_,(by omega),t+1,true,Q',_,[(q',.tok)],_,[(ob,_)],h2,rb,rfl,rfl,rfl,⟨fw,gW,by omega⟩,.inr ⟨q',by rw [ch,List.map_append];rfl,rfl⟩,.inr ⟨ob,pr++al x,rfl,rfl⟩,dx⟩
        | exact ⟨_,_,ar.perm (List.perm_middle (l₁:=[_,_,_])).symm,_,(by omega),t+1,true,Q',_,[(q',.tok)],_,[(ob,_)],h2,rb,rfl,rfl,rfl,⟨fw,gW,by omega⟩,.inr ⟨q',by rw [ch,hF];rfl,rfl⟩,.inr ⟨ob,pr++al x,rfl,rfl⟩,dx⟩
   | true=>
     obtain ⟨y,hy⟩:=bf.ok.last;have zs:=bf.ok.pos rfl;have Bt:=Bs hy;have Ej:((aY (dh g es)).take t)[t - 1]?=some y:=by rw [List.getElem?_take_of_lt (by omega)];exact hy
     obtain ⟨_,cl,bw,bA⟩:=iN hy;obtain ⟨xe,BF⟩:=aN (l:=es) (i:=y.aP) (by have:=(List.getElem?_eq_some_iff.1 bw).1;rw [Eg] at this;exact this);have lE:=hE xe (List.mem_of_getElem? BF);(conv=>whnf);repeat ((refine ⟨_,_,.tail _ (.tail _ (.head _)),rfl,?_⟩);conv=>whnf)
     refine cT rfl ?_;(conv=>whnf);repeat ((first|refine ⟨af ⟨by omega,by omega⟩,?_⟩|refine ix (by assumption) ?_|(refine ⟨_,_,.there (.there (.here _)),aF,?_⟩)|(refine ⟨_,_,.tail _ (.tail _ (.head _)),rfl,?_⟩)|(refine cj (t - 1) (by omega) Ej ?_)|refine ⟨_,_,aK.here _,?_⟩|refine ⟨_,_,.tail _ (.head _),rfl,?_⟩|refine ⟨_,_,.here _,aF,?_⟩|refine And.intro (by show aJ (aH Tryz.f216 _) _=true;decide +kernel) ?_|intro (nb:Nat));conv=>whnf)
     have MX:=lE.lo;have MY:=lE.hi;have Ek:=lE.cost;have gz:((xe.to.toNat:Nat):Int)=xe.to:=Int.toNat_of_nonneg (by omega);have rW:=og (IH xe.to.toNat (by omega) (by omega)) (by omega) (by omega) (tb:=tb) (R:=R) (nq:=nq) dN dX (aO:=y.aO+1) (by omega) dx [(rb,.vec (al rV))] ((k,.vec (cg (.sl 3 (some q) (((aY (dh g es)).take t).map al)) ov false))::(q,.tok)::oh);rw [gz] at rW;obtain ⟨l,kE,hD⟩:=Bz hg bp BF;have pa:=hD (y.aO+1);have dI:=bf.bE;have Uk:Q.length+1<=2000:=(by simpa using dI);refine ay.mono ?_ rW;clear dx;rintro v h1 ⟨rfl,h2,dx,rfl⟩;cases hw:(fj g xe.to.toNat)[y.aO+1]? with
     | none=>
       have dy:bW g xe.to.toNat (y.aO+1)=.aQ [.agg (al rV),.bool false]:=by unfold bW;rw [hw]
       rw [hw] at pa;rw [dy];have bf:oY (dh g es) t false Q:=⟨bf.ok.skip hy kE pa,by simp;omega,bf.asked⟩;(conv=>whnf);repeat ((first|refine ⟨_,_,aK.here _,⟨Nat.le_of_ble_eq_true rfl,rfl⟩,?_⟩|intro (nb:Nat));conv=>whnf)
       refine cF rfl ?_;cases hQ:Q with
       | nil=>
         subst hQ;have dy:bW g at_ aO=.aQ [.agg (al rV),.bool false]:=by unfold bW;rw [me,uE bf.ok.empty nw]
         have xQ:=dp;rcases dp with ⟨_,rfl,rfl⟩|⟨ob,pr,rfl,rfl⟩
         all_goals
          (conv=>whnf);repeat ((refine ⟨_,_,.tail _ (.tail _ (.head _)),rfl,?_⟩);conv=>whnf)
          refine cT rfl ?_;(conv=>whnf);repeat ((first|(refine ⟨_,_,.here _,aF,?_⟩)|refine ⟨_,_,.head _,rfl,?_⟩);conv=>whnf)
          refine ⟨dy.symm,_,.cons ⟨t,false,[],_,_,_,_,by rw [jF];exact bf,by rw [jF];exact qU,xQ,rfl⟩ dx,rb,_,by first|exact BA|exact .refl _|(refine List.Perm.of_eq ?_;simp)⟩
       | cons x Q'=>
         rcases dp with ⟨h0,rfl,rfl⟩|⟨ob,pr,rfl,rfl⟩
         ·rw [hQ] at h0;cases h0
         subst hQ;obtain ⟨hx,fw⟩:=bf.ok.pop;have ch:=take_one hx;have dI:=bf.bE;have uF:(x::Q').length=Q'.length+1:=rfl;have vX:((aY (dh g es)).take t).length<=65:=(by omega);(conv=>whnf);repeat ((refine ⟨_,_,.tail _ (.tail _ (.head _)),rfl,?_⟩);conv=>whnf)
         refine cF (decide_eq_false (by omega)) ?_;(conv=>whnf);repeat ((first|(refine ⟨_,_,.tail _ (.tail _ (.head _)),rfl,?_⟩)|(refine ⟨0,af ⟨rfl,by omega⟩,?_⟩)|(refine oe (i:=0) da (.tail _ (.tail _ (.tail _ (.tail _ (.head _))))) rfl rfl ?_)|refine And.intro (by show aJ (aH Tryz.f216 _) _=true;decide +kernel) ?_);conv=>whnf)
         first|refine ⟨Nat.le_of_ble_eq_true rfl,fun q'=>?_⟩|refine ⟨(by simp;unfold aV;omega),fun q'=>⟨_,.there (.there (.there (.here _))),?_⟩⟩
         (conv=>whnf);repeat ((first|refine ⟨af ⟨by omega,by omega⟩,?_⟩|(refine ⟨_,_,.there (.there (.here _)),aF,?_⟩)|(refine ⟨_,_,.tail _ (.tail _ (.head _)),rfl,?_⟩));conv=>whnf)
         have e1:pr.length+Int.toNat 1*3=(pr++al x).length:=by rw [List.length_append];rfl
         have e2:(((x::Q').length:Nat):Int).toNat - Int.toNat 1=Q'.length:=by rw [Int.toNat_natCast];rfl
         have e3:pr++((x::Q').map al).flatten=(pr++al x)++(Q'.map al).flatten:=(by simp);have gW:Q'.length+(if true=true then 1 else 0)<=2000:=by simp at dI ⊢;omega
         rw [e1,e2,e3]
         first
          | exact ⟨_,_,ar.refl _ _,_,(by omega),t+1,true,Q',_,[(q',.tok)],_,[(ob,_)],h2,rb,rfl,rfl,rfl,⟨fw,gW,by omega⟩,.inr ⟨q',by rw [ch,List.map_append];rfl,rfl⟩,.inr ⟨ob,pr++al x,rfl,rfl⟩,dx⟩
          | exact ⟨_,_,ar.perm (List.perm_middle (l₁:=[_,_,_])).symm,_,(by omega),t+1,true,Q',_,[(q',.tok)],_,[(ob,_)],h2,rb,rfl,rfl,rfl,⟨fw,gW,by omega⟩,.inr ⟨q',by rw [ch,hF];rfl,rfl⟩,.inr ⟨ob,pr++al x,rfl,rfl⟩,dx⟩
     | some w=>
       have dy:bW g xe.to.toNat (y.aO+1)=.aQ [.agg (al w),.bool true]:=by unfold bW;rw [hw]
       rw [hw] at pa;have xR:=Hx hg (i:=xe.to.toNat) (by omega) w (List.mem_of_getElem? hw);rw [dy];(conv=>whnf);repeat ((first|refine ⟨_,_,aK.here _,⟨Nat.le_of_ble_eq_true rfl,rfl⟩,?_⟩|intro (nb:Nat));conv=>whnf)
       refine cT rfl ?_;(conv=>whnf);repeat ((first|refine ⟨af ⟨by omega,by omega⟩,?_⟩|refine And.intro (by show aJ (aH Tryz.f216 _) _=true;decide +kernel) ?_);conv=>whnf)
       refine ay.mono ?_ (mD (x:=⟨xe.cost+w.cost,y.aP,y.aO+1⟩) bf.ok.sorted (nk:=k) (fv:=.sl 3 (some q) (((aY (dh g es)).take t).map al)) (due:=false) dp (by omega) [(rb,.vec (al rV)),(tb,fU g R (.sl 1 nq ((pre++k::ks).map mC)))] [(q,.tok)] h2);have fw:oY (dh g es) t false (il ⟨xe.cost+w.cost,y.aP,y.aO+1⟩ Q):=⟨bf.ok.push hy kE pa,by rw [vV];simp;omega,bf.asked⟩;clear bf dp;rintro v h1 ⟨rfl,ov,oh,dp,rfl⟩;obtain ⟨Q,HG⟩:∃ Q',Q'=il ⟨xe.cost+w.cost,y.aP,y.aO+1⟩ Q:=⟨_,rfl⟩;rw [<- HG] at dp fw;have bf:=fw;(conv=>whnf);repeat ((refine ⟨_,_,.tail _ (.tail _ (.head _)),rfl,?_⟩);conv=>whnf)
       cases hQ:Q with
       | nil=>
         subst hQ;have dy:bW g at_ aO=.aQ [.agg (al rV),.bool false]:=by unfold bW;rw [me,uE bf.ok.empty nw]
         have xQ:=dp;rcases dp with ⟨_,rfl,rfl⟩|⟨ob,pr,rfl,rfl⟩
         all_goals
          (conv=>whnf);skip;refine cT rfl ?_;(conv=>whnf);repeat ((first|(refine ⟨_,_,.here _,aF,?_⟩)|refine ⟨_,_,.head _,rfl,?_⟩);conv=>whnf)
          refine ⟨dy.symm,_,.cons ⟨t,false,[],_,_,_,_,by rw [jF];exact bf,by rw [jF];exact qU,xQ,rfl⟩ dx,rb,_,by first|exact BA|exact .refl _|(refine List.Perm.of_eq ?_;simp)⟩
       | cons x Q'=>
         rcases dp with ⟨h0,rfl,rfl⟩|⟨ob,pr,rfl,rfl⟩
         ·rw [hQ] at h0;cases h0
         subst hQ;obtain ⟨hx,fw⟩:=bf.ok.pop;have ch:=take_one hx;have dI:=bf.bE;have uF:(x::Q').length=Q'.length+1:=rfl;have vX:((aY (dh g es)).take t).length<=65:=(by omega);(conv=>whnf);skip;refine cF (decide_eq_false (by omega)) ?_;(conv=>whnf);repeat ((first|(refine ⟨_,_,.tail _ (.tail _ (.head _)),rfl,?_⟩)|(refine ⟨0,af ⟨rfl,by omega⟩,?_⟩)|(refine oe (i:=0) da (.tail _ (.tail _ (.tail _ (.tail _ (.head _))))) rfl rfl ?_)|refine And.intro (by show aJ (aH Tryz.f216 _) _=true;decide +kernel) ?_);conv=>whnf)
         first|refine ⟨Nat.le_of_ble_eq_true rfl,fun q'=>?_⟩|refine ⟨(by simp;unfold aV;omega),fun q'=>⟨_,.there (.there (.there (.here _))),?_⟩⟩
         (conv=>whnf);repeat ((first|refine ⟨af ⟨by omega,by omega⟩,?_⟩|(refine ⟨_,_,.there (.there (.here _)),aF,?_⟩)|(refine ⟨_,_,.tail _ (.tail _ (.head _)),rfl,?_⟩));conv=>whnf)
         have e1:pr.length+Int.toNat 1*3=(pr++al x).length:=by rw [List.length_append];rfl
         have e2:(((x::Q').length:Nat):Int).toNat - Int.toNat 1=Q'.length:=by rw [Int.toNat_natCast];rfl
         have e3:pr++((x::Q').map al).flatten=(pr++al x)++(Q'.map al).flatten:=(by simp);have gW:Q'.length+(if true=true then 1 else 0)<=2000:=by simp at dI ⊢;omega
         rw [e1,e2,e3]
         first
          | exact ⟨_,_,ar.refl _ _,_,(by omega),t+1,true,Q',_,[(q',.tok)],_,[(ob,_)],h2,rb,rfl,rfl,rfl,⟨fw,gW,by omega⟩,.inr ⟨q',by rw [ch,List.map_append];rfl,rfl⟩,.inr ⟨ob,pr++al x,rfl,rfl⟩,dx⟩
          | exact ⟨_,_,ar.perm (List.perm_middle (l₁:=[_,_,_])).symm,_,(by omega),t+1,true,Q',_,[(q',.tok)],_,[(ob,_)],h2,rb,rfl,rfl,rfl,⟨fw,gW,by omega⟩,.inr ⟨q',by rw [ch,hF];rfl,rfl⟩,.inr ⟨ob,pr++al x,rfl,rfl⟩,dx⟩
  obtain ⟨w,hw⟩:=aN (l:=(aY (dh g es)).take t) (i:=aO) (by omega);have pb:=hw;rw [List.getElem?_take_of_lt (by omega)] at pb;(conv=>whnf);repeat ((first|refine ix (by assumption) ?_|(refine ⟨_,_,.tail _ (.tail _ (.head _)),rfl,?_⟩)|(refine ⟨_,_,.here _,aF,?_⟩)|refine ⟨_,_,.head _,rfl,?_⟩);conv=>whnf)
  refine ⟨?_,_,.cons ⟨t,due,Q,_,_,_,_,by rw [jF];exact bf,by rw [jF];exact qU,dp,rfl⟩ dx,rb,_,BA⟩;unfold bW;rw [me,pb];rfl
 rintro v h1 ⟨hv,aZ,jj,rb,o,eH⟩;refine ⟨v,_,⟨hv,aZ,jj,rfl⟩,ag.refl _,fun k o hm=>eH.mem_iff.2 (List.mem_cons_of_mem _ hm),fun hn=>?_⟩;have:=((eH.map (fun p:Nat × Ob=>p.1)).nodup_iff).1 hn;exact (List.nodup_cons.1 this).2
theorem getAll (g:List (List az)) (hg:gV g):∀ (d j:Nat),j+d=g.length->jE g j:=by
 intro d;induction d using Nat.strongRecOn with
 | _ d ih=>exact fun j hj=>oZ g hg j (by omega) fun i h1 h2=>ih (g.length - i) (by omega) i (by omega)
end Go.Abs.Wall.Lst
namespace Go.Abs.Wall.Lst
open Go Go.Abs Go.Proofs Go.Abs.Wall
theorem Ul (g:List (List az)) (i:Nat) (k:Nat) (Q:List Wy) (ov:AV) (oh:ab) (hq:tw (xP g i) (xP g i).length Q) (hl:Q.length<=2000) (ho:ef Q ov oh):eS g i [k] ((k,.vec (cg .aW ov false))::oh):=by have:=eS.cons (g:=g) (i:=i) (k:=k) (ks:=[]) (h1:=(k,.vec (cg .aW ov false))::([]++oh)) (h2:=[]) ⟨0,false,Q,.aW,[],ov,oh,⟨Hm hq,by simpa using hl,by omega⟩,.inl ⟨by simp,rfl,rfl⟩,ho,rfl⟩ (.nil _);simpa using this
def c147:aw:=⟨[0,2,3,4,5,6,7,8,16,17,18,29,30,31,32,45],[11,22],[7],[],[(9,[0,1,2,3,4,5,6,7,8],[]),(11,[0,1,2,3,4,5,6,7,8,9],[])],[55]⟩
theorem HH (g:List (List az)) (hg:gV g):ay Tryz.prog 147 [.au (zp g (dJ g))] [] (fun v h'=>∃ tb ks nq nv hp,v=.bn tb 0/\ks.length=g.length/\(g=[]\/nv=.sl 1 nq (ks.map mC))/\eS g 0 ks hp/\h'=(tb,fU g (dJ g) nv)::hp):=by
 have MW:=hg.bE;refine ay.post (R:=fun v h'=>∃ tb ks nv nh hp,v=.bn tb 0/\ks.length=g.length/\Out 1 mC ks nv nh/\eS g 0 ks hp/\h'=(tb,fU g (dJ g) nv)::(nh++hp)) ?_ ?_
 ·refine aG (F:=Tryz.f147) c147 rfl rfl rfl mixed rfl fun X=>?_;(conv=>whnf);repeat (intro (nb:Nat);conv=>whnf)
  refine cy rfl mixed [0,3,16,17] [] (fun m r h=>∃ (tb i:Nat) (ks:List Nat) (nv:AV) (nh hp:ab),r=[(0,[],.au (zp g (dJ g))),(3,[],.bn tb 0),(16,[],.int .i64 g.length),(17,[],.int .i64 i)]/\h=(tb,fU g (dJ g) nv)::(nh++hp)/\m=g.length - i/\i<=g.length/\ks.length=i/\Out 1 mC ks nv nh/\eS g 0 ks hp) ?_ ?_
  ·(conv=>whnf);exact ⟨_,_,ar.refl _ _,_,nb,0,[],.aW,[],[],by rw [List.length_map];rfl,rfl,rfl,by omega,rfl,.inl ⟨rfl,rfl,rfl⟩,.nil _⟩
  rintro m r h' ⟨tb,i,ks,nv,nh,hp,rfl,rfl,rfl,hi,dX,pd,hN⟩;(conv=>whnf);refine ⟨fun hz=>?_,fun hz=>?_⟩<;>simp at hz
  ·obtain ⟨es,bp⟩:=aN (l:=g) (i:=i) hz;have hE:=hg.aP i es bp;have jF:xP g i=dh g es:=by unfold xP;rw [List.getD_eq_getElem?_getD,bp];rfl
   have MZ:=hg.many i es bp;(conv=>whnf);repeat ((first|refine ix (by assumption) ?_|intro (nb:Nat));conv=>whnf)
   refine cy rfl mixed [0,3,5,16,17,29,30,31] [] (fun m r h=>∃ (j:Nat) (Q:List Wy) (ov:AV) (oh:ab) (k:Nat),r=[(0,[],.au (zp g (dJ g))),(3,[],.bn tb 0),(5,[],.bn k 0),(16,[],.int .i64 g.length),(17,[],.int .i64 i),(29,[],.sl 7 none (es.map cx)),(30,[],.int .i64 (es.map cx).length),(31,[],.int .i64 j)]/\h=(tb,fU g (dJ g) nv)::(k,.vec (cg .aW ov false))::(nh++(oh++hp))/\m=es.length - j/\j<=es.length/\tw (dh g es) j Q/\Q.length<=j/\ef Q ov oh) ?_ ?_
   ·(conv=>whnf);exact ⟨_,_,ar.perm (List.Perm.swap _ _ _),_,0,[],.aW,[],nb,rfl,rfl,rfl,by omega,Hl _,by simp,.inl ⟨rfl,rfl,rfl⟩⟩
   rintro m r h' ⟨j,Q,ov,oh,k,rfl,rfl,rfl,hj,rX,Na,dp⟩;(conv=>whnf);refine ⟨fun eX=>?_,fun eX=>?_⟩<;>simp at eX
   ·obtain ⟨x,hx⟩:=aN (l:=es) (i:=j) eX;have lE:=hE x (List.mem_of_getElem? hx);have MX:=lE.lo;have MY:=lE.hi;have Ek:=lE.cost;have gz:x.to=((x.to.toNat:Nat):Int):=(Int.toNat_of_nonneg (by omega)).symm;have Um:=xN g x.to.toNat (by omega);have zt:=Ug hg (g.length - x.to.toNat) x.to.toNat (by omega);obtain ⟨l,kE,hD⟩:=Bz hg bp hx;have pa:=hD 0;(conv=>whnf);repeat ((first|refine ix (by assumption) ?_|(refine cj x.to.toNat gz Um ?_)|refine ⟨_,_,aK.here _,⟨Nat.le_of_ble_eq_true rfl,rfl⟩,?_⟩|refine And.intro (by show aJ (aH Tryz.f147 _) _=true;decide +kernel) ?_|intro (nb:Nat));conv=>whnf)
    cases hw:(fj g x.to.toNat)[0]? with
    | none=>
      rw [hw] at zt pa;rw [zt];refine cF rfl ?_;(conv=>whnf);repeat (refine ⟨af ⟨by omega,by omega⟩,?_⟩;conv=>whnf)
      exact ⟨_,_,ar.refl _ _,_,(by omega),j+1,Q,ov,oh,k,rfl,rfl,rfl,by omega,Ed rX kE pa,by omega,dp⟩
    | some w=>
      rw [hw] at zt pa;have xR:=Hx hg (i:=x.to.toNat) (by omega) w (List.mem_of_getElem? hw);have zt:ij g x.to.toNat=w.cost:=zt;rw [zt];refine cT (by simp;omega) ?_;(conv=>whnf);repeat ((first|refine ⟨af ⟨by omega,by omega⟩,?_⟩|refine And.intro (by show aJ (aH Tryz.f147 _) _=true;decide +kernel) ?_);conv=>whnf)
      refine ay.mono ?_ (mD (x:=⟨x.cost+w.cost,j,0⟩) rX.1 (nk:=k) (fv:=.aW) (due:=false) dp (by omega) [(tb,fU g (dJ g) nv)] nh hp);clear dp;rintro v h1 ⟨rfl,ov,oh,dp,rfl⟩;(conv=>whnf);repeat (refine ⟨af ⟨by omega,by omega⟩,?_⟩;conv=>whnf)
      exact ⟨_,_,ar.refl _ _,_,(by omega),j+1,_,ov,oh,k,rfl,rfl,rfl,by omega,Ee rX kE pa,by rw [vV];omega,dp⟩
   have uG:j=es.length:=(by omega);subst uG;have Un:eS g i [k] ((k,.vec (cg .aW ov false))::oh):=Ul g i k Q ov oh (by rw [jF,Eg];exact rX) (by omega) dp;have Nb:=hN.join (by rw [dX,Nat.zero_add];exact Un);have jb:(ks.map mC).length=ks.length:=List.length_map _;have uH:∀ (o:Ob) (q:Nat × Ob),((tb,o)::(k,Ob.vec (cg .aW ov false))::q::(oh++hp)).Perm ((tb,o)::([q]++(hp++((k,.vec (cg .aW ov false))::oh)))):=by intro o q;refine List.Perm.cons _ ((List.Perm.swap _ _ _).trans (List.Perm.cons _ ?_));exact List.perm_append_comm (l₁:=(k,Ob.vec (cg .aW ov false))::oh) (l₂:=hp)
   rcases pd with ⟨iv,rfl,rfl⟩|⟨q0,rfl,rfl⟩
   ·subst iv;(conv=>whnf);repeat ((first|refine ⟨af ⟨by omega,by omega⟩,?_⟩|(refine ⟨Nat.le_of_ble_eq_true rfl,fun q=>?_⟩)|refine ⟨_,_,.head _,rfl,?_⟩|refine ⟨_,_,.there (.here _),aF,?_⟩);conv=>whnf)
    exact ⟨_,_,ar.perm ((List.perm_middle (l₁:=[_,_])).symm.trans (uH _ (q,.tok))),_,(by omega),tb,i+1,[k],.sl 1 (some q) [[.bn k 0]],[(q,.tok)],_,rfl,rfl,rfl,by omega,by simp at dX ⊢;omega,.inr ⟨q,rfl,rfl⟩,Nb⟩
   (conv=>whnf);repeat ((first|refine ⟨af ⟨by omega,by omega⟩,?_⟩|(refine ⟨(by rw [List.length_append,jb];simp;unfold aV;omega),fun q=>⟨_,.there (.there (.here _)),?_⟩⟩)|refine ⟨_,_,.head _,rfl,?_⟩|refine ⟨_,_,.here _,aF,?_⟩);conv=>whnf)
   exact ⟨_,_,ar.perm (uH _ (q,.tok)),_,(by omega),tb,i+1,ks++[k],.sl 1 (some q) (ks.map mC++[[.bn k 0]]),[(q,.tok)],_,rfl,rfl,rfl,by omega,by rw [List.length_append,dX];rfl,.inr ⟨q,by rw [List.map_append];rfl,rfl⟩,Nb⟩
  have:i=g.length:=(by omega);subst this;(conv=>whnf);skip;exact ⟨tb,ks,nv,nh,hp,rfl,dX,pd,hN,rfl⟩
 rintro v h1 ⟨tb,ks,nv,nh,hp,rfl,dX,ho,hN,rfl⟩;refine ⟨.bn tb 0,(tb,fU g (dJ g) nv)::hp,?_,ag.refl _,fun k o hm=>?_,fun hn=>?_⟩
 ·rcases ho with ⟨rfl,rfl,rfl⟩|⟨q,rfl,rfl⟩
  ·exact ⟨tb,[],none,.aW,hp,rfl,dX,.inl (List.eq_nil_of_length_eq_zero dX.symm),hN,rfl⟩
  exact ⟨tb,ks,some q,_,hp,rfl,dX,.inr rfl,hN,rfl⟩
 ·rcases List.mem_cons.1 hm with h|h
  ·rw [h];exact List.mem_cons_self
  exact List.mem_cons_of_mem _ (List.mem_append_right _ h)
 unfold keys at hn ⊢;simp only [List.map_cons,List.map_append,List.nodup_cons,List.mem_append,not_or,List.nodup_append] at hn ⊢;exact ⟨hn.1.2,hn.2.2.1⟩
end Go.Abs.Wall.Lst
