/- What is proved: small laws for the walks of this seat, and contracts of its functions. No condition but those each theorem names. -/
import Derived.Test.YtbmcnieifibckaaGreatN23
import Derived.Test.YtbmcnieifibckaaGreatN16
import Derived.Test.YtbmcnieifibckaaGreatN21
import Derived.Test.YtbmcnieifibckaaGreatN17
import Derived.Test.YtbmcnieifibckaaGreatN19
import Derived.Test.YtbmcnieifibckaaGreatN26
set_option maxRecDepth 100000
set_option maxHeartbeats 2000000
set_option linter.unusedVariables false
set_option linter.unusedSimpArgs false
namespace Go.Abs.Wall.Spl
open Go Go.Abs Go.Proofs Go.Abs.Wall
open Go.Abs.Wall.Lst hiding aq ic lH jx gE dn lI kH lJ lK lL lM lN eA lO ch lP pC rI bY jW oN mV pD getAll cn yK qD dp gq iQ cK fY eU pF rL yL CN eV eV.lt eV.full eV.step eV.end fo FT
structure GQ where
 sign:Int
 cost:Int
 to:Nat
 use:ay
structure eD where
 path:List GQ
 fin:Int
def QV (p:List GQ):Int:=(p.map (·.cost)).sum
def GR (r:eD):Int:=r.fin+QV r.path
def fD (r:eD):Int:=GR r*16+r.path.length
def YI (t:GQ):List AV:=[.int .i64 t.sign,.int .i64 t.cost,.int .i64 t.to]++aV t.use
def yK (c:Int):List GQ->List AV
 | []=>[.int .i64 0,.int .i64 0,.int .i64 0,.int .i64 0,.str [],.kA]
 | t::p=>YI t++[.au (.int .i64 (c+QV p)::.int .i64 p.length::yK c p)]
def qD (r:eD):List AV:=.int .i64 (GR r)::.int .i64 r.path.length::yK r.fin r.path
def dp (r:eD):List AV:=[.au (qD r)]
def gq (l:List eD):List AV:=[.sl 1 none (l.map dp)]
theorem iQ (l:List eD):(gq l).length=1:=rfl
def dJ (ls:List (List eD)):List (List Int):=ls.map fun l=>l.map fD
def fY (ls:List (List eD)) (w:Wy):eD:=(ls.getD w.aO []).getD w.aM ⟨[],0⟩
def eU (ls:List (List eD)) (rs:Nat->Nat):List (List eD):=ls.mapIdx fun k l=>l.drop (rs k)
theorem pF (ls:List (List eD)) (rs:Nat->Nat):(eU ls rs).length=ls.length:=by simp [eU]
theorem rL {ls:List (List eD)} {rs:Nat->Nat} {k:Nat} {l:List eD} (h:ls[k]?=some l):(eU ls rs)[k]?=some (l.drop (rs k)):=by unfold eU;rw [List.getElem?_mapIdx,h];rfl
theorem yL {ls:List (List eD)} {rs:Nat->Nat} {k:Nat} {l:List eD} (h:ls[k]?=some l):(eU ls rs).set k ((l.drop (rs k)).drop 1)=eU ls (up rs k):=by
 refine List.ext_getElem? fun j=>?_;by_cases hj:j=k
 ·subst hj;rw [List.getElem?_set_self (by rw [pF];exact (List.getElem?_eq_some_iff.1 h).1),rL h,List.drop_drop];unfold up;rw [if_pos rfl,Nat.add_comm]
 rw [List.getElem?_set_ne (Ne.symm hj)];unfold eU;rw [List.getElem?_mapIdx,List.getElem?_mapIdx];unfold up;rw [if_neg hj]
theorem CN (ls:List (List eD)):eU ls nP=ls:=by unfold eU nP;refine List.ext_getElem? fun j=>?_;rw [List.getElem?_mapIdx];cases ls[j]?<;>rfl
def eV (cur:List (List eD)) (i:Nat) (b:Int):Prop:=
 (b = -1/\∀ j l,j<i->cur[j]?=some l->l=[]) \/
 ∃ (k:Nat) (p:eD) (r:List eD),b=(k:Int)/\k<i/\cur[k]?=some (p::r)/\∀ (j:Nat) q s,j<i->cur[j]?=some (q::s)->fD p<fD q\/(fD p=fD q/\k<=j)
theorem eV.lt {cur:List (List eD)} {i:Nat} {b:Int} {n:Nat} (h:eV cur i b) (hi:i<=n):-1<=b/\b<n:=by rcases h with ⟨rfl,_⟩|⟨k,p,r,rfl,hk,_⟩<;>omega
theorem eV.full {cur:List (List eD)} {i:Nat} {b:Int} {lb:List eD} (h:eV cur i b) (hb:0<=b) (dh:cur[b.toNat]?=some lb):0<lb.length:=by
 rcases h with ⟨rfl,_⟩|⟨k,p,r,rfl,hk,hc,_⟩
 ·omega
 rw [Int.toNat_natCast,hc] at dh;cases dh
 simp
theorem eV.step {cur:List (List eD)} {i:Nat} {b:Int} {li lb:List eD} (h:eV cur i b) (dR:cur[i]?=some li) (dh:cur[b.toNat]?=some lb) :
  (0<li.length->(b<0\/fD (li.getD 0 ⟨[],0⟩)<fD (lb.getD 0 ⟨[],0⟩))->eV cur (i+1) i)/\(¬ (0<li.length/\(b<0\/fD (li.getD 0 ⟨[],0⟩)<fD (lb.getD 0 ⟨[],0⟩)))->eV cur (i+1) b):=by
 have yM:∀ (j:Nat),j<i+1->j<i\/j=i:=fun j hj=>by omega
 constructor
 ·intro h1 h2;cases li with
  | nil=>simp at h1
  | cons p r=>
    refine .inr ⟨i,p,r,rfl,by omega,dR,fun j q s hj hq=>?_⟩;rcases yM j hj with hj|rfl
    ·left;rcases h with ⟨rfl,he⟩|⟨k,p',r',rfl,hk,hc,hm⟩
     ·have:=he j _ hj hq;cases this
     rw [Int.toNat_natCast,hc] at dh;cases dh
     have h3:fD p<fD p':=by
      rcases h2 with h2|h2
      ·omega
      simpa using h2
     rcases hm j q s hj hq with e|⟨e,_⟩<;>omega
    rw [dR] at hq;cases hq
    exact .inr ⟨rfl,Nat.le_refl _⟩
 intro hn;rcases h with ⟨rfl,he⟩|⟨k,p,r,rfl,hk,hc,hm⟩
 ·refine .inl ⟨rfl,fun j l hj hl=>?_⟩;rcases yM j hj with hj|rfl
  ·exact he j l hj hl
  rw [dR] at hl;cases hl
  refine Classical.byContradiction fun aJ=>hn ⟨List.length_pos_iff.2 aJ,.inl (by omega)⟩
 refine .inr ⟨k,p,r,rfl,by omega,hc,fun j q s hj hq=>?_⟩;rcases yM j hj with hj|rfl
 ·exact hm j q s hj hq
 rw [dR] at hq;cases hq
 rw [Int.toNat_natCast,hc] at dh;cases dh
 have:¬ fD q<fD p:=fun e=>hn ⟨by simp,.inr (by simpa using e)⟩;by_cases e:fD p<fD q
 ·exact .inl e
 exact .inr ⟨by omega,by omega⟩
theorem eV.end {ls:List (List eD)} {rs:Nat->Nat} {b:Int} (h:eV (eU ls rs) ls.length b) :
  (b = -1/\gU (dJ ls) rs=none)\/∃ (k:Nat) (p:eD) (r:List eD) (l:List eD),b=(k:Int)/\ls[k]?=some l/\(eU ls rs)[k]?=some (p::r)/\l.drop (rs k)=p::r/\gU (dJ ls) rs=some ⟨fD p,k,rs k⟩:=by
 have qC:∀ x,iv (dJ ls) rs x->∃ q s,(eU ls rs)[x.aO]?=some (q::s)/\fD q=x.cost:=by
  rintro x ⟨h1,l,h2,h3⟩;unfold dJ at h2;rw [List.getElem?_map] at h2;cases hl:ls[x.aO]? with
  | none=>rw [hl] at h2;cases h2
  | some l0=>
    rw [hl] at h2;cases h2
    rw [List.getElem?_map,h1] at h3;cases hq:l0[rs x.aO]? with
    | none=>rw [hq] at h3;cases h3
    | some q=>
      rw [hq] at h3;refine ⟨q,l0.drop (rs x.aO+1),?_,by simpa using h3⟩;rw [rL hl,drop_cons hq]
 rcases h with ⟨rfl,he⟩|⟨k,p,r,rfl,hk,hc,hm⟩
 ·left;refine ⟨rfl,FI fun x hx=>?_⟩;obtain ⟨q,s,h1,_⟩:=qC x hx;have aI:=(List.getElem?_eq_some_iff.1 h1).1;rw [pF] at aI;have:=he x.aO _ aI h1;cases this
 right;obtain ⟨l,hl⟩:=aL (l:=ls) hk;have hd:l.drop (rs k)=p::r:=by have:=rL (rs:=rs) hl;rw [hc] at this;exact (Option.some.inj this).symm
 have hp:l[rs k]?=some p:=by have:=congrArg (fun z=>z[0]?) hd;simpa [List.getElem?_drop] using this
 refine ⟨k,p,r,l,rfl,hl,hc,hd,FH ⟨rfl,l.map fD,?_,?_⟩ fun y hy=>?_⟩
 ·unfold dJ;rw [List.getElem?_map,hl];rfl
 ·show (l.map fD)[rs k]?=some (fD p);rw [List.getElem?_map,hp];rfl
 obtain ⟨q,s,h1,h2⟩:=qC y hy;have aI:=(List.getElem?_eq_some_iff.1 h1).1;rw [pF] at aI;rcases hm y.aO q s aI h1 with e|⟨e1,e2⟩
 ·exact .inr (.inl (by show fD p<y.cost;omega))
 by_cases e3:y.aO=k
 ·left;refine iv.eq hy ⟨rfl,l.map fD,?_,?_⟩ e3
  ·unfold dJ;rw [List.getElem?_map,hl];rfl
  show (l.map fD)[rs k]?=some (fD p);rw [List.getElem?_map,hp];rfl
 exact .inr (.inr ⟨by show fD p=y.cost;omega,by show k<y.aO;omega⟩)
def c167:az:=⟨[0,1,4,13],[],[],[],[(1,[0,1,2,3,4,5,6,7,8],[]),(2,[0,1,2,3,4,5,6,7,8,9],[]),(3,[0,1,2,3,4,5,6,7,8,9],[])],[]⟩
theorem QW (x y:eD) (hx:x.path.length<=15) (hy:y.path.length<=15):ae Tryz.prog 167 [.au (qD x),.au (qD y)] [] (.bool (decide (fD x<fD y))):=by
 refine aG (F:=Tryz.f167) c167 rfl rfl rfl mixed rfl fun X=>?_;(conv=>whnf);repeat (refine And.intro (by show aP (aN Tryz.f167 _) _=true;decide +kernel) ?_;conv=>whnf)
 refine ⟨fun h0=>?_,fun h0=>?_⟩<;>simp at h0
 ·have he:decide (fD x<fD y)=decide (GR x<GR y):=by
   refine decide_eq_decide.2 ?_;unfold fD;omega
  rw [he];(conv=>whnf);repeat (refine And.intro (by show aP (aN Tryz.f167 _) _=true;decide +kernel) ?_;conv=>whnf)
  exact ⟨rfl,rfl⟩
 have he:decide (fD x<fD y)=decide ((x.path.length:Int)<y.path.length):=by refine decide_eq_decide.2 ?_;unfold fD;omega
 rw [he];(conv=>whnf);repeat (refine And.intro (by show aP (aN Tryz.f167 _) _=true;decide +kernel) ?_;conv=>whnf)
 exact ⟨rfl,rfl⟩
theorem GS {l:List eD} (h:∀ r∈l,r.path.length<=15):(l.getD 0 ⟨[],0⟩).path.length<=15:=by
 rw [List.getD_eq_getElem?_getD];cases hq:l[0]? with
 | none=>exact Nat.zero_le _
 | some r=>exact h r (List.mem_of_getElem? hq)
def fo (ls:List (List eD)) (most:Nat):List eD:=((aW (dJ ls)).take most).map (fY ls)
def c109:az:=⟨[0,1,4,5,6,7,11,15,42,45],[],[],[],[(7,[0,1,2,3,4,5,6,7,8,9,10,11,12,13,14,15,16,17,18,19,20,21,22,23,24],[])],[]⟩
theorem FT (ls:List (List eD)) (aJ:0<ls.length) (hl:ls.length<=65536) (gD:∀ l∈ls,l.length<=65536) (ej:∀ l∈ls,∀ r∈l,r.path.length<=15) (most:Nat) (hm:most<=64) (b:Nat) :
  aB Tryz.prog 109 [.aQ b 0 ls.length 1,.int .i64 most] [(b,.vec (ls.map gq).flatten)] (fun v h'=>v=.sl 1 none ((fo ls most).map dp)/\h'=[]):=by
 refine aB.post (R:=fun v h'=>ag v (.sl 1 none ((fo ls most).map dp))) ?_ ?_
 ·refine aG (F:=Tryz.f109) c109 rfl rfl rfl mixed rfl fun X=>?_;(conv=>whnf);skip;refine bW rfl mixed [0,1,5] [] (fun m r h=>∃ (t:Nat) (ov:AV) (oh:af),r=[(0,[],.aQ b 0 ls.length 1),(1,[],.int .i64 most),(5,[],ov)]/\h=(b,.vec ((eU ls (cU (dJ ls) t)).map gq).flatten)::oh/\m=65 - t/\t<=most/\t<=(aW (dJ ls)).length/\Out 1 dp (((aW (dJ ls)).take t).map (fY ls)) ov oh) ?_ ?_
  ·(conv=>whnf);exact ⟨_,_,ao.refl _ _,_,0,.aT,[],rfl,by rw [show cU (dJ ls) 0=nP from rfl,CN],rfl,by omega,by omega,.inl ⟨by simp,rfl,rfl⟩⟩
  rintro m r h' ⟨t,ov,oh,rfl,rfl,rfl,yh,gR,ho⟩;have bH:=ho;have mW:(((aW (dJ ls)).take t).map (fY ls)).length=t:=by rw [List.length_map,List.length_take];omega
  obtain ⟨cur,jB⟩:∃ cur,cur=eU ls (cU (dJ ls) t):=⟨_,rfl⟩;have bz:cur.length=ls.length:=by rw [jB,pF]
  have qE:∀ (k:Nat) l,cur[k]?=some l->l.length<=65536:=by
   intro k l hk;rw [jB] at hk;have aI:=(List.getElem?_eq_some_iff.1 hk).1;rw [pF] at aI;obtain ⟨l0,dF⟩:=aL (l:=ls) aI;rw [rL dF] at hk;cases hk
   have:=gD l0 (List.mem_of_getElem? dF);rw [List.length_drop];omega
  have GU:∀ (k:Nat) l,cur[k]?=some l->∀ r∈l,r.path.length<=15:=by
   intro k l hk r hr;rw [jB] at hk;have aI:=(List.getElem?_eq_some_iff.1 hk).1;rw [pF] at aI;obtain ⟨l0,dF⟩:=aL (l:=ls) aI;rw [rL dF] at hk;cases hk
   exact ej l0 (List.mem_of_getElem? dF) r (List.mem_of_mem_drop hr)
  rw [<- jB];have gQ:((((aW (dJ ls)).take t).map (fY ls)).map dp).length=t:=by rw [List.length_map];exact mW
  rcases ho with ⟨pG,rfl,rfl⟩|⟨q,rfl,rfl⟩
  ·have Jr:t=0:=by rw [pG] at mW;exact mW.symm
   skip;(conv=>whnf);skip;refine ⟨fun hz=>?_,fun hz=>?_⟩<;>simp at hz
   ·have JA:t<most:=(by omega);refine bW rfl mixed [0,1,5,6,7] [] (fun m r h=>∃ (i:Nat) (bi:Int),r=[(0,[],.aQ b 0 ls.length 1),(1,[],.int .i64 most),(5,[],.aT),(6,[],.int .i64 bi),(7,[],.int .i64 i)]/\h=(b,.vec (cur.map gq).flatten)::[]/\m=ls.length - i/\i<=ls.length/\eV cur i bi) ?_ ?_
    ·(conv=>whnf);exact ⟨_,_,ao.refl _ _,_,0,-1,rfl,rfl,rfl,by omega,.inl ⟨rfl,fun j l hj=>by omega⟩⟩
    rintro m r h' ⟨i,bi,rfl,rfl,rfl,hi,hb⟩;(conv=>whnf);refine ⟨fun fU=>?_,fun fU=>?_⟩<;>simp at fU
    ·obtain ⟨li,dR⟩:=aL (l:=cur) (i:=i) (by omega);have JB:=qE i li dR;have wQ:-1<=bi/\bi<ls.length:=hb.lt (by omega);obtain ⟨lb,dh⟩:=aL (l:=cur) (i:=bi.toNat) (by omega);have JC:=qE _ lb dh;have xu:=QW (li.getD 0 ⟨[],0⟩) (lb.getD 0 ⟨[],0⟩) (GS (GU i li dR)) (GS (GU _ lb dh));(conv=>whnf);repeat ((first|(refine fx (i:=i) (by omega) ?_)|(refine eR iQ (.head _) (by omega) dR ?_)|(refine rE (enc:=dp) (⟨[],0⟩:eD) ?_ ?_;(focus (conv=>whnf;skip));(focus (intro h1 h2;simp only [decide_eq_true_eq,decide_eq_false_iff_not,List.length_map] at h1 h2;first|(show 0<=(0:Int)/\(0:Int)<(li.length:Int);omega)|(show 0<=(0:Int)/\(0:Int)<(lb.length:Int);have:=hb.full (by omega) dh;omega))))|(refine yy ?_ ?_;(focus (conv=>whnf;skip));(focus (intro h1 h2;simp only [decide_eq_true_eq,decide_eq_false_iff_not,List.length_map] at h1 h2;show 0<=bi/\bi<ls.length;omega)))|(refine eR iQ (.head _) (by omega) dh ?_)|refine ba (xu) ?_|refine And.intro (by show aP (aN Tryz.f109 _) _=true;decide +kernel) ?_);conv=>whnf)
     refine ⟨fun bE=>?_,fun bE=>?_⟩
     ·(conv=>whnf);repeat (refine ⟨ah ⟨by omega,by omega⟩,?_⟩;conv=>whnf)
      (conv=>whnf);skip;exact ⟨_,_,ao.refl _ _,_,(by omega),i+1,i,rfl,rfl,rfl,by omega,(hb.step dR dh).1 (by simp at bE;omega) (by simp at bE;simpa using bE.2)⟩
     (conv=>whnf);repeat (refine ⟨ah ⟨by omega,by omega⟩,?_⟩;conv=>whnf)
     (conv=>whnf);skip;exact ⟨_,_,ao.refl _ _,_,(by omega),i+1,bi,rfl,rfl,rfl,by omega,(hb.step dR dh).2 (by rintro ⟨e1,e2⟩;simp at bE;simp at e2;have:=bE e1;omega)⟩
    obtain rfl:i=ls.length:=by omega
    rw [jB] at hb;rcases hb.end with ⟨rfl,mT⟩|⟨k,pp,rr,l,rfl,dI,gk,mr,iL⟩
    ·have oQ:(aW (dJ ls)).take t=(aW (dJ ls)).take most:=by
      have hle:(aW (dJ ls)).length<=t:=by
       rcases Nat.lt_or_ge t (aW (dJ ls)).length with e|e
       ·obtain ⟨x,hx⟩:=aL e;rw [lG,mT] at hx;cases hx
       exact e
      rw [List.take_of_length_le hle,List.take_of_length_le (by omega)]
     (conv=>whnf);skip;refine ⟨fun bE=>?_,fun bE=>?_⟩<;>simp at bE
     have dV:fo ls most=((aW (dJ ls)).take t).map (fY ls):=by unfold fo;rw [oQ]
     (conv=>whnf);skip;rw [dV];exact bH.le (by decide)
    have lV:=iL;rw [<- lG] at lV;have yN:k<ls.length:=(List.getElem?_eq_some_iff.1 dI).1;rw [<- jB] at gk;have dW:=qE k _ gk;(conv=>whnf);skip;refine ⟨fun bE=>absurd (of_decide_eq_true bE) (by omega),fun bE=>?_⟩;(conv=>whnf);repeat ((first|(refine fx (i:=k) (by omega) ?_)|(refine eR iQ (.head _) (by omega) gk ?_)|(refine ix (enc:=dp) (i:=0) rfl ?_));conv=>whnf)
    have cj:((aW (dJ ls)).take (t+1)).map (fY ls)=((aW (dJ ls)).take t).map (fY ls)++[pp]:=by rw [dj lV,List.map_append];refine congrArg (_++[·]) ?_;show (ls.getD k []).getD (cU (dJ ls) t k) ⟨[],0⟩=pp;rw [show ls.getD k []=l by rw [List.getD_eq_getElem?_getD,dI];rfl,List.getD_eq_getElem?_getD];have:=congrArg (fun z=>z[0]?) mr;simp only [List.getElem?_drop,Nat.add_zero,List.getElem?_cons_zero] at this;rw [this];rfl
    have ui:cur.set k rr=eU ls (cU (dJ ls) (t+1)):=by rw [ue lV,jB,<- yL dI,mr];rfl
    have JD:t<(aW (dJ ls)).length:=(List.getElem?_eq_some_iff.1 lV).1;refine ⟨Nat.le_of_ble_eq_true rfl,fun q2=>?_⟩;(conv=>whnf);repeat ((first|(refine fx (i:=k) (by omega) ?_)|(refine eR iQ (by first|exact .head _|exact .tail _ (.head _)) (by omega) gk ?_)|(refine ⟨ah ⟨by decide,by rw [List.length_map,List.length_cons];omega,Int.le_refl _⟩,?_⟩));conv=>whnf)
    (conv=>whnf);have vw:List.drop (Int.toNat 1) (List.take ((((pp::rr).map dp).length:Int)).toNat ((pp::rr).map dp))=rr.map dp:=by rw [Int.toNat_natCast,List.take_length];rfl
    refine py (enc:=gq) (L:=cur) rr (by decide) iQ (by rw [bz];exact yN) (by omega) (by unfold gq;rw [<- vw];rfl) (by first|exact .here _|exact .there (.here _)) ?_;(conv=>whnf);skip;exact ⟨_,_,ao.perm (List.Perm.swap _ _ _),_,(by omega),t+1,_,[(q2,.tok)],rfl,(by rw [ui]),rfl,by omega,by omega,.inr ⟨q2,(by rw [cj,pG];rfl),rfl⟩⟩
   have oQ:(aW (dJ ls)).take t=(aW (dJ ls)).take most:=(by rw [show t=most by omega]);have dV:fo ls most=((aW (dJ ls)).take t).map (fY ls):=by unfold fo;rw [oQ]
   (conv=>whnf);skip;rw [dV];exact bH.le (by decide)
  skip;skip;(conv=>whnf);skip;refine ⟨fun hz=>?_,fun hz=>?_⟩<;>simp at hz
  ·have JA:t<most:=(by omega);refine bW rfl mixed [0,1,5,6,7] [] (fun m r h=>∃ (i:Nat) (bi:Int),r=[(0,[],.aQ b 0 ls.length 1),(1,[],.int .i64 most),(5,[],.sl 1 (some q) ((((aW (dJ ls)).take t).map (fY ls)).map dp)),(6,[],.int .i64 bi),(7,[],.int .i64 i)]/\h=(b,.vec (cur.map gq).flatten)::[(q,.tok)]/\m=ls.length - i/\i<=ls.length/\eV cur i bi) ?_ ?_
   ·(conv=>whnf);exact ⟨_,_,ao.refl _ _,_,0,-1,rfl,rfl,rfl,by omega,.inl ⟨rfl,fun j l hj=>by omega⟩⟩
   rintro m r h' ⟨i,bi,rfl,rfl,rfl,hi,hb⟩;(conv=>whnf);refine ⟨fun fU=>?_,fun fU=>?_⟩<;>simp at fU
   ·obtain ⟨li,dR⟩:=aL (l:=cur) (i:=i) (by omega);have JB:=qE i li dR;have wQ:-1<=bi/\bi<ls.length:=hb.lt (by omega);obtain ⟨lb,dh⟩:=aL (l:=cur) (i:=bi.toNat) (by omega);have JC:=qE _ lb dh;have xu:=QW (li.getD 0 ⟨[],0⟩) (lb.getD 0 ⟨[],0⟩) (GS (GU i li dR)) (GS (GU _ lb dh));(conv=>whnf);repeat ((first|(refine fx (i:=i) (by omega) ?_)|(refine eR iQ (.head _) (by omega) dR ?_)|(refine rE (enc:=dp) (⟨[],0⟩:eD) ?_ ?_;(focus (conv=>whnf;skip));(focus (intro h1 h2;simp only [decide_eq_true_eq,decide_eq_false_iff_not,List.length_map] at h1 h2;first|(show 0<=(0:Int)/\(0:Int)<(li.length:Int);omega)|(show 0<=(0:Int)/\(0:Int)<(lb.length:Int);have:=hb.full (by omega) dh;omega))))|(refine yy ?_ ?_;(focus (conv=>whnf;skip));(focus (intro h1 h2;simp only [decide_eq_true_eq,decide_eq_false_iff_not,List.length_map] at h1 h2;show 0<=bi/\bi<ls.length;omega)))|(refine eR iQ (.head _) (by omega) dh ?_)|refine ba (xu) ?_|refine And.intro (by show aP (aN Tryz.f109 _) _=true;decide +kernel) ?_);conv=>whnf)
    refine ⟨fun bE=>?_,fun bE=>?_⟩
    ·(conv=>whnf);repeat (refine ⟨ah ⟨by omega,by omega⟩,?_⟩;conv=>whnf)
     (conv=>whnf);skip;exact ⟨_,_,ao.refl _ _,_,(by omega),i+1,i,rfl,rfl,rfl,by omega,(hb.step dR dh).1 (by simp at bE;omega) (by simp at bE;simpa using bE.2)⟩
    (conv=>whnf);repeat (refine ⟨ah ⟨by omega,by omega⟩,?_⟩;conv=>whnf)
    (conv=>whnf);skip;exact ⟨_,_,ao.refl _ _,_,(by omega),i+1,bi,rfl,rfl,rfl,by omega,(hb.step dR dh).2 (by rintro ⟨e1,e2⟩;simp at bE;simp at e2;have:=bE e1;omega)⟩
   obtain rfl:i=ls.length:=by omega
   rw [jB] at hb;rcases hb.end with ⟨rfl,mT⟩|⟨k,pp,rr,l,rfl,dI,gk,mr,iL⟩
   ·have oQ:(aW (dJ ls)).take t=(aW (dJ ls)).take most:=by
     have hle:(aW (dJ ls)).length<=t:=by
      rcases Nat.lt_or_ge t (aW (dJ ls)).length with e|e
      ·obtain ⟨x,hx⟩:=aL e;rw [lG,mT] at hx;cases hx
      exact e
     rw [List.take_of_length_le hle,List.take_of_length_le (by omega)]
    (conv=>whnf);skip;refine ⟨fun bE=>?_,fun bE=>?_⟩<;>simp at bE
    have dV:fo ls most=((aW (dJ ls)).take t).map (fY ls):=by unfold fo;rw [oQ]
    (conv=>whnf);skip;rw [dV];exact bH.le (by decide)
   have lV:=iL;rw [<- lG] at lV;have yN:k<ls.length:=(List.getElem?_eq_some_iff.1 dI).1;rw [<- jB] at gk;have dW:=qE k _ gk;(conv=>whnf);skip;refine ⟨fun bE=>absurd (of_decide_eq_true bE) (by omega),fun bE=>?_⟩;(conv=>whnf);repeat ((first|(refine fx (i:=k) (by omega) ?_)|(refine eR iQ (.head _) (by omega) gk ?_)|(refine ix (enc:=dp) (i:=0) rfl ?_));conv=>whnf)
   have cj:((aW (dJ ls)).take (t+1)).map (fY ls)=((aW (dJ ls)).take t).map (fY ls)++[pp]:=by rw [dj lV,List.map_append];refine congrArg (_++[·]) ?_;show (ls.getD k []).getD (cU (dJ ls) t k) ⟨[],0⟩=pp;rw [show ls.getD k []=l by rw [List.getD_eq_getElem?_getD,dI];rfl,List.getD_eq_getElem?_getD];have:=congrArg (fun z=>z[0]?) mr;simp only [List.getElem?_drop,Nat.add_zero,List.getElem?_cons_zero] at this;rw [this];rfl
   have ui:cur.set k rr=eU ls (cU (dJ ls) (t+1)):=by rw [ue lV,jB,<- yL dI,mr];rfl
   have JD:t<(aW (dJ ls)).length:=(List.getElem?_eq_some_iff.1 lV).1;refine ⟨(by rw [List.length_append,gQ];simp;unfold aU;omega),fun q2=>⟨_,.there (.here _),?_⟩⟩;(conv=>whnf);repeat ((first|(refine fx (i:=k) (by omega) ?_)|(refine eR iQ (by first|exact .head _|exact .tail _ (.head _)) (by omega) gk ?_)|(refine ⟨ah ⟨by decide,by rw [List.length_map,List.length_cons];omega,Int.le_refl _⟩,?_⟩));conv=>whnf)
   (conv=>whnf);have vw:List.drop (Int.toNat 1) (List.take ((((pp::rr).map dp).length:Int)).toNat ((pp::rr).map dp))=rr.map dp:=by rw [Int.toNat_natCast,List.take_length];rfl
   refine py (enc:=gq) (L:=cur) rr (by decide) iQ (by rw [bz];exact yN) (by omega) (by unfold gq;rw [<- vw];rfl) (by first|exact .here _|exact .there (.here _)) ?_;(conv=>whnf);skip;exact ⟨_,_,ao.refl _ _,_,(by omega),t+1,_,[(q2,.tok)],rfl,(by rw [ui]),rfl,by omega,by omega,.inr ⟨q2,(by rw [cj,List.map_append];rfl),rfl⟩⟩
  have oQ:(aW (dJ ls)).take t=(aW (dJ ls)).take most:=(by rw [show t=most by omega]);have dV:fo ls most=((aW (dJ ls)).take t).map (fY ls):=by unfold fo;rw [oQ]
  (conv=>whnf);skip;rw [dV];exact bH.le (by decide)
 intro v h1 hv;exact ⟨.sl 1 none ((fo ls most).map dp),[],⟨rfl,rfl⟩,hv,fun k o hm=>(by cases hm),fun _=>(by simp [keys])⟩
end Go.Abs.Wall.Spl
namespace Go.Abs.Wall.Spl
open Go Go.Abs Go.Proofs Go.Abs.Wall
open Go.Abs.Wall.Lst hiding aq ic lH jx gE dn lI kH lJ lK lL lM lN eA lO ch lP pC rI bY jW oN mV pD getAll cn yK qD dp gq iQ cK fY eU pF rL yL CN eV eV.lt eV.full eV.step eV.end fo FT
end Go.Abs.Wall.Spl
namespace Go.Abs.Wall.Spl
open Go Go.Abs Go.Proofs Go.Abs.Wall
open Go.Abs.Wall.Lst hiding aq ic lH jx gE dn lI kH lJ lK lL lM lN eA lO ch lP vr
def Bf (E:Env):bJ->List Mv->Prop
 | x,[]=>(gv E x).2=true
 | x,m::p=>m∈fB E x/\Bf E m.to p
def Bg (E:Env):bJ->List Mv->Int
 | x,[]=>(gv E x).1*16
 | x,m::p=>Bg E m.to p+(m.cost*16+1)
theorem KO {E:Env} (hE:jE E):∀ (d:Nat) (x:bJ),jF E x->(12 - x.n).toNat=d->∀ (ρ:Nat) w,(eY E x)[ρ]?=some w->Bf E x (nU E x w)/\Bg E x (nU E x w)=w.cost:=by
 intro d;induction d with
 | zero=>
   intro x hx hd ρ w hw;have hn:=hx.n;by_cases he:w.aO=0
   ·obtain ⟨h1,h2,h3⟩:=Ks hE hx hw he;rw [h1];exact ⟨h3,h2.symm⟩
   obtain ⟨m,w',hm,cG,_⟩:=vr hE hx hw he;have:=cG.next;have:=cG.to.n;omega
 | succ d ih=>
   intro x hx hd ρ w hw;have hn:=hx.n;by_cases he:w.aO=0
   ·obtain ⟨h1,h2,h3⟩:=Ks hE hx hw he;rw [h1];exact ⟨h3,h2.symm⟩
   obtain ⟨m,w',hm,cG,kZ,hp,hc,_⟩:=vr hE hx hw he;have cp:=cG.next;obtain ⟨h1,h2⟩:=ih m.to cG.to (by omega) _ w' kZ;rw [hp];refine ⟨⟨List.mem_of_getElem? hm,h1⟩,?_⟩;show Bg E m.to (nU E m.to w')+_=_;rw [h2,hc]
theorem KP {E:Env} (hE:jE E):∀ (p:List Mv) (x:bJ),jF E x->Bf E x p->(p.length:Int)+x.n<=12
 | [],x,hx,hp=>by have:=hx.n;simp;omega
 | m::p,x,hx,hp=>by have cG:=AS hE hx hp.1;have:=KP hE p m.to cG.to hp.2;have:=cG.next;rw [List.length_cons];omega
end Go.Abs.Wall.Spl
namespace Go.Abs.Wall.Spl
open Go Go.Abs Go.Proofs Go.Abs.Wall
end Go.Abs.Wall.Spl
