/- Small laws for the walks and contracts of functions; each theorem names its conditions. -/
import Derived.Test.YthmcbjcgdfmmaaaGreatN23
import Derived.Test.YthmcbjcgdfmmaaaGreatN16
import Derived.Test.YthmcbjcgdfmmaaaGreatN21
import Derived.Test.YthmcbjcgdfmmaaaGreatN17
import Derived.Test.YthmcbjcgdfmmaaaGreatN19
import Derived.Test.YthmcbjcgdfmmaaaGreatN26
set_option maxRecDepth 100000
set_option maxHeartbeats 2000000
namespace Go.Abs.Wall.Spl
open Go Go.Abs Go.Proofs Go.Abs.Wall
open Go.Abs.Wall.Lst hiding al iW nG kQ ij dA nH lY nI nJ nK nL nM fj nO cm nP rH uc bW kS qB oO rI getAll cA vm oQ ch ck gQ cD eL eT pF rK yN CI eU eU.lt eU.full eU.step eU.end cI uf
structure fF where
 sign:Int
 cost:Int
 to:Nat
 use:az
structure cn where
 path:List fF
 fin:Int
def xu (p:List fF):Int:=(p.map (·.cost)).sum
def mY (r:cn):Int:=r.fin+xu r.path
def dm (r:cn):Int:=mY r*16+r.path.length
def oX (t:fF):List AV:=[.int .i64 t.sign,.int .i64 t.cost,.int .i64 t.to]++aU t.use
def vm (c:Int):List fF->List AV
 | []=>[.int .i64 0,.int .i64 0,.int .i64 0,.int .i64 0,.str [],.jC]
 | t::p=>oX t++[.ai (.int .i64 (c+xu p)::.int .i64 p.length::vm c p)]
def oQ (r:cn):List AV:=.int .i64 (mY r)::.int .i64 r.path.length::vm r.fin r.path
def ch (r:cn):List AV:=[.ai (oQ r)]
def ck (l:List cn):List AV:=[.sl 1 none (l.map ch)]
theorem gQ (l:List cn):(ck l).length=1:=rfl
def dv (ls:List (List cn)):List (List Int):=ls.map fun l=>l.map dm
def eL (ls:List (List cn)) (w:Wy):cn:=(ls.getD w.aR []).getD w.aO ⟨[],0⟩
def eT (ls:List (List cn)) (rs:Nat->Nat):List (List cn):=ls.mapIdx fun k l=>l.drop (rs k)
theorem pF (ls:List (List cn)) (rs:Nat->Nat):(eT ls rs).length=ls.length:=by simp [eT]
theorem rK {ls:List (List cn)} {rs:Nat->Nat} {k:Nat} {l:List cn} (h:ls[k]?=some l):(eT ls rs)[k]?=some (l.drop (rs k)):=by unfold eT;rw [List.getElem?_mapIdx,h];rfl
theorem yN {ls:List (List cn)} {rs:Nat->Nat} {k:Nat} {l:List cn} (h:ls[k]?=some l):(eT ls rs).set k ((l.drop (rs k)).drop 1)=eT ls (up rs k):=by
 refine List.ext_getElem? fun j=>?_;by_cases hj:j=k
 ·subst hj;rw [List.getElem?_set_self (by rw [pF];exact (List.getElem?_eq_some_iff.1 h).1),rK h,List.drop_drop];unfold up;rw [if_pos rfl,Nat.add_comm]
 rw [List.getElem?_set_ne (Ne.symm hj)];unfold eT;rw [List.getElem?_mapIdx,List.getElem?_mapIdx];unfold up;rw [if_neg hj]
theorem CI (ls:List (List cn)):eT ls mF=ls:=by unfold eT mF;refine List.ext_getElem? fun j=>?_;rw [List.getElem?_mapIdx];cases ls[j]?<;>rfl
def eU (cur:List (List cn)) (i:Nat) (b:Int):Prop:=
 (b = -1/\∀ j l,j<i->cur[j]?=some l->l=[]) \/
 ∃ (k:Nat) (p:cn) (r:List cn),b=(k:Int)/\k<i/\cur[k]?=some (p::r)/\∀ (j:Nat) q s,j<i->cur[j]?=some (q::s)->dm p<dm q\/(dm p=dm q/\k<=j)
theorem eU.lt {cur:List (List cn)} {i:Nat} {b:Int} {n:Nat} (h:eU cur i b) (hi:i<=n):-1<=b/\b<n:=by rcases h with ⟨rfl,_⟩|⟨k,p,r,rfl,hk,_⟩<;>omega
theorem eU.full {cur:List (List cn)} {i:Nat} {b:Int} {lb:List cn} (h:eU cur i b) (hb:0<=b) (dF:cur[b.toNat]?=some lb):0<lb.length:=by
 rcases h with ⟨rfl,_⟩|⟨k,p,r,rfl,hk,hc,_⟩
 ·omega
 rw [Int.toNat_natCast,hc] at dF;cases dF
 simp
theorem eU.step {cur:List (List cn)} {i:Nat} {b:Int} {li lb:List cn} (h:eU cur i b) (dW:cur[i]?=some li) (dF:cur[b.toNat]?=some lb) :
  (0<li.length->(b<0\/dm (li.getD 0 ⟨[],0⟩)<dm (lb.getD 0 ⟨[],0⟩))->eU cur (i+1) i)/\(¬ (0<li.length/\(b<0\/dm (li.getD 0 ⟨[],0⟩)<dm (lb.getD 0 ⟨[],0⟩)))->eU cur (i+1) b):=by
 have yO:∀ (j:Nat),j<i+1->j<i\/j=i:=fun j hj=>by omega
 constructor
 ·intro h1 h2;cases li with
  | nil=>simp at h1
  | cons p r=>
    refine .inr ⟨i,p,r,rfl,by omega,dW,fun j q s hj hq=>?_⟩;rcases yO j hj with hj|rfl
    ·left;rcases h with ⟨rfl,he⟩|⟨k,p',r',rfl,hk,hc,hm⟩
     ·have:=he j _ hj hq;cases this
     rw [Int.toNat_natCast,hc] at dF;cases dF
     have h3:dm p<dm p':=by
      rcases h2 with h2|h2
      ·omega
      simpa using h2
     rcases hm j q s hj hq with e|⟨e,_⟩<;>omega
    rw [dW] at hq;cases hq
    exact .inr ⟨rfl,Nat.le_refl _⟩
 intro hn;rcases h with ⟨rfl,he⟩|⟨k,p,r,rfl,hk,hc,hm⟩
 ·refine .inl ⟨rfl,fun j l hj hl=>?_⟩;rcases yO j hj with hj|rfl
  ·exact he j l hj hl
  rw [dW] at hl;cases hl
  refine Classical.byContradiction fun aM=>hn ⟨List.length_pos_iff.2 aM,.inl (by omega)⟩
 refine .inr ⟨k,p,r,rfl,by omega,hc,fun j q s hj hq=>?_⟩;rcases yO j hj with hj|rfl
 ·exact hm j q s hj hq
 rw [dW] at hq;cases hq
 rw [Int.toNat_natCast,hc] at dF;cases dF
 have:¬ dm q<dm p:=fun e=>hn ⟨by simp,.inr (by simpa using e)⟩;by_cases e:dm p<dm q
 ·exact .inl e
 exact .inr ⟨by omega,by omega⟩
theorem eU.end {ls:List (List cn)} {rs:Nat->Nat} {b:Int} (h:eU (eT ls rs) ls.length b) :
  (b = -1/\fK (dv ls) rs=none)\/∃ (k:Nat) (p:cn) (r:List cn) (l:List cn),b=(k:Int)/\ls[k]?=some l/\(eT ls rs)[k]?=some (p::r)/\l.drop (rs k)=p::r/\fK (dv ls) rs=some ⟨dm p,k,rs k⟩:=by
 have qA:∀ x,ig (dv ls) rs x->∃ q s,(eT ls rs)[x.aR]?=some (q::s)/\dm q=x.cost:=by
  rintro x ⟨h1,l,h2,h3⟩;unfold dv at h2;rw [List.getElem?_map] at h2;cases hl:ls[x.aR]? with
  | none=>rw [hl] at h2;cases h2
  | some l0=>
    rw [hl] at h2;cases h2
    rw [List.getElem?_map,h1] at h3;cases hq:l0[rs x.aR]? with
    | none=>rw [hq] at h3;cases h3
    | some q=>
      rw [hq] at h3;refine ⟨q,l0.drop (rs x.aR+1),?_,by simpa using h3⟩;rw [rK hl,drop_cons hq]
 rcases h with ⟨rfl,he⟩|⟨k,p,r,rfl,hk,hc,hm⟩
 ·left;refine ⟨rfl,Fl fun x hx=>?_⟩;obtain ⟨q,s,h1,_⟩:=qA x hx;have aP:=(List.getElem?_eq_some_iff.1 h1).1;rw [pF] at aP;have:=he x.aR _ aP h1;cases this
 right;obtain ⟨l,hl⟩:=aF (l:=ls) hk;have hd:l.drop (rs k)=p::r:=by have:=rK (rs:=rs) hl;rw [hc] at this;exact (Option.some.inj this).symm
 have hp:l[rs k]?=some p:=by have:=congrArg (fun z=>z[0]?) hd;simpa [List.getElem?_drop] using this
 refine ⟨k,p,r,l,rfl,hl,hc,hd,Fk ⟨rfl,l.map dm,?_,?_⟩ fun y hy=>?_⟩
 ·unfold dv;rw [List.getElem?_map,hl];rfl
 ·show (l.map dm)[rs k]?=some (dm p);rw [List.getElem?_map,hp];rfl
 obtain ⟨q,s,h1,h2⟩:=qA y hy;have aP:=(List.getElem?_eq_some_iff.1 h1).1;rw [pF] at aP;rcases hm y.aR q s aP h1 with e|⟨e1,e2⟩
 ·exact .inr (.inl (by show dm p<y.cost;omega))
 by_cases e3:y.aR=k
 ·left;refine ig.eq hy ⟨rfl,l.map dm,?_,?_⟩ e3
  ·unfold dv;rw [List.getElem?_map,hl];rfl
  show (l.map dm)[rs k]?=some (dm p);rw [List.getElem?_map,hp];rfl
 exact .inr (.inr ⟨by show dm p=y.cost;omega,by show k<y.aR;omega⟩)
def c218:av:=⟨[0,1,4,13],[],[],[],[(1,[0,1,2,3,4,5,6,7,8],[]),(2,[0,1,2,3,4,5,6,7,8,9],[]),(3,[0,1,2,3,4,5,6,7,8,9],[])],[]⟩
theorem Qa (x y:cn) (hx:x.path.length<=15) (hy:y.path.length<=15):ab Tryz.prog 218 [.ai (oQ x),.ai (oQ y)] [] (.bool (decide (dm x<dm y))):=by
 refine aA (F:=Tryz.f218) c218 rfl rfl rfl mixed rfl fun X=>?_;(conv=>whnf);repeat (refine And.intro (by show aJ (aH Tryz.f218 _) _=true;decide +kernel) ?_;conv=>whnf)
 refine ⟨fun h0=>?_,fun h0=>?_⟩<;>simp at h0
 ·have he:decide (dm x<dm y)=decide (mY x<mY y):=by
   refine decide_eq_decide.2 ?_;unfold dm;omega
  rw [he];(conv=>whnf);repeat (refine And.intro (by show aJ (aH Tryz.f218 _) _=true;decide +kernel) ?_;conv=>whnf)
  exact ⟨rfl,rfl⟩
 have he:decide (dm x<dm y)=decide ((x.path.length:Int)<y.path.length):=by refine decide_eq_decide.2 ?_;unfold dm;omega
 rw [he];(conv=>whnf);repeat (refine And.intro (by show aJ (aH Tryz.f218 _) _=true;decide +kernel) ?_;conv=>whnf)
 exact ⟨rfl,rfl⟩
theorem Gq {l:List cn} (h:∀ r∈l,r.path.length<=15):(l.getD 0 ⟨[],0⟩).path.length<=15:=by
 rw [List.getD_eq_getElem?_getD];cases hq:l[0]? with
 | none=>exact Nat.zero_le _
 | some r=>exact h r (List.mem_of_getElem? hq)
def cI (ls:List (List cn)) (most:Nat):List cn:=((aW (dv ls)).take most).map (eL ls)
def c187:av:=⟨[0,1,4,5,6,7,11,15,42,45],[],[],[],[(7,[0,1,2,3,4,5,6,7,8,9,10,11,12,13,14,15,16,17,18,19,20,21,22,23,24],[])],[]⟩
theorem uf (ls:List (List cn)) (aM:0<ls.length) (hl:ls.length<=65536) (eu:∀ l∈ls,l.length<=65536) (cM:∀ l∈ls,∀ r∈l,r.path.length<=15) (most:Nat) (hm:most<=64) (b:Nat) :
  aw Tryz.prog 187 [.aQ b 0 ls.length 1,.int .i64 most] [(b,.vec (ls.map ck).flatten)] (fun v h'=>v=.sl 1 none ((cI ls most).map ch)/\h'=[]):=by
 refine aw.post (R:=fun v h'=>aa v (.sl 1 none ((cI ls most).map ch))) ?_ ?_
 ·refine aA (F:=Tryz.f187) c187 rfl rfl rfl mixed rfl fun X=>?_;(conv=>whnf);skip;refine bD rfl mixed [0,1,5] [] (fun m r h=>∃ (t:Nat) (ov:AV) (oh:af),r=[(0,[],.aQ b 0 ls.length 1),(1,[],.int .i64 most),(5,[],ov)]/\h=(b,.vec ((eT ls (dz (dv ls) t)).map ck).flatten)::oh/\m=65 - t/\t<=most/\t<=(aW (dv ls)).length/\Out 1 ch (((aW (dv ls)).take t).map (eL ls)) ov oh) ?_ ?_
  ·(conv=>whnf);exact ⟨_,_,ah.refl _ _,_,0,.aS,[],rfl,by rw [show dz (dv ls) 0=mF from rfl,CI],rfl,by omega,by omega,.inl ⟨by simp,rfl,rfl⟩⟩
  rintro m r h' ⟨t,ov,oh,rfl,rfl,rfl,yl,gf,ho⟩;have bF:=ho;have mL:(((aW (dv ls)).take t).map (eL ls)).length=t:=by rw [List.length_map,List.length_take];omega
  obtain ⟨cur,jq⟩:∃ cur,cur=eT ls (dz (dv ls) t):=⟨_,rfl⟩;have bq:cur.length=ls.length:=by rw [jq,pF]
  have qC:∀ (k:Nat) l,cur[k]?=some l->l.length<=65536:=by
   intro k l hk;rw [jq] at hk;have aP:=(List.getElem?_eq_some_iff.1 hk).1;rw [pF] at aP;obtain ⟨l0,dw⟩:=aF (l:=ls) aP;rw [rK dw] at hk;cases hk
   have:=eu l0 (List.mem_of_getElem? dw);rw [List.length_drop];omega
  have Gr:∀ (k:Nat) l,cur[k]?=some l->∀ r∈l,r.path.length<=15:=by
   intro k l hk r hr;rw [jq] at hk;have aP:=(List.getElem?_eq_some_iff.1 hk).1;rw [pF] at aP;obtain ⟨l0,dw⟩:=aF (l:=ls) aP;rw [rK dw] at hk;cases hk
   exact cM l0 (List.mem_of_getElem? dw) r (List.mem_of_mem_drop hr)
  rw [<- jq];have fu:((((aW (dv ls)).take t).map (eL ls)).map ch).length=t:=by rw [List.length_map];exact mL
  rcases ho with ⟨eV,rfl,rfl⟩|⟨q,rfl,rfl⟩
  ·have IS:t=0:=by rw [eV] at mL;exact mL.symm
   skip;(conv=>whnf);skip;refine ⟨fun hz=>?_,fun hz=>?_⟩<;>simp at hz
   ·have Ja:t<most:=(by omega);refine bD rfl mixed [0,1,5,6,7] [] (fun m r h=>∃ (i:Nat) (bi:Int),r=[(0,[],.aQ b 0 ls.length 1),(1,[],.int .i64 most),(5,[],.aS),(6,[],.int .i64 bi),(7,[],.int .i64 i)]/\h=(b,.vec (cur.map ck).flatten)::[]/\m=ls.length - i/\i<=ls.length/\eU cur i bi) ?_ ?_
    ·(conv=>whnf);exact ⟨_,_,ah.refl _ _,_,0,-1,rfl,rfl,rfl,by omega,.inl ⟨rfl,fun j l hj=>by omega⟩⟩
    rintro m r h' ⟨i,bi,rfl,rfl,rfl,hi,hb⟩;(conv=>whnf);refine ⟨fun cx=>?_,fun cx=>?_⟩<;>simp at cx
    ·obtain ⟨li,dW⟩:=aF (l:=cur) (i:=i) (by omega);have Jb:=qC i li dW;have wR:-1<=bi/\bi<ls.length:=hb.lt (by omega);obtain ⟨lb,dF⟩:=aF (l:=cur) (i:=bi.toNat) (by omega);have Jc:=qC _ lb dF;have xv:=Qa (li.getD 0 ⟨[],0⟩) (lb.getD 0 ⟨[],0⟩) (Gq (Gr i li dW)) (Gq (Gr _ lb dF));(conv=>whnf);repeat ((first|(refine fy (i:=i) (by omega) ?_)|(refine fI gQ (.head _) (by omega) dW ?_)|(refine rG (enc:=ch) (⟨[],0⟩:cn) ?_ ?_;(focus (conv=>whnf;skip));(focus (intro h1 h2;simp only [decide_eq_true_eq,decide_eq_false_iff_not,List.length_map] at h1 h2;first|(show 0<=(0:Int)/\(0:Int)<(li.length:Int);omega)|(show 0<=(0:Int)/\(0:Int)<(lb.length:Int);have:=hb.full (by omega) dF;omega))))|(refine yA ?_ ?_;(focus (conv=>whnf;skip));(focus (intro h1 h2;simp only [decide_eq_true_eq,decide_eq_false_iff_not,List.length_map] at h1 h2;show 0<=bi/\bi<ls.length;omega)))|(refine fI gQ (.head _) (by omega) dF ?_)|refine aY (xv) ?_|refine And.intro (by show aJ (aH Tryz.f187 _) _=true;decide +kernel) ?_);conv=>whnf)
     refine ⟨fun bx=>?_,fun bx=>?_⟩
     ·(conv=>whnf);repeat (refine ⟨ag ⟨by omega,by omega⟩,?_⟩;conv=>whnf)
      (conv=>whnf);skip;exact ⟨_,_,ah.refl _ _,_,(by omega),i+1,i,rfl,rfl,rfl,by omega,(hb.step dW dF).1 (by simp at bx;omega) (by simp at bx;simpa using bx.2)⟩
     (conv=>whnf);repeat (refine ⟨ag ⟨by omega,by omega⟩,?_⟩;conv=>whnf)
     (conv=>whnf);skip;exact ⟨_,_,ah.refl _ _,_,(by omega),i+1,bi,rfl,rfl,rfl,by omega,(hb.step dW dF).2 (by rintro ⟨e1,e2⟩;simp at bx;simp at e2;have:=bx e1;omega)⟩
    obtain rfl:i=ls.length:=by omega
    rw [jq] at hb;rcases hb.end with ⟨rfl,mH⟩|⟨k,pp,rr,l,rfl,dh,ga,ma,iG⟩
    ·have oR:(aW (dv ls)).take t=(aW (dv ls)).take most:=by
      have hle:(aW (dv ls)).length<=t:=by
       rcases Nat.lt_or_ge t (aW (dv ls)).length with e|e
       ·obtain ⟨x,hx⟩:=aF e;rw [kP,mH] at hx;cases hx
       exact e
      rw [List.take_of_length_le hle,List.take_of_length_le (by omega)]
     (conv=>whnf);skip;refine ⟨fun bx=>?_,fun bx=>?_⟩<;>simp at bx
     have dZ:cI ls most=((aW (dv ls)).take t).map (eL ls):=by unfold cI;rw [oR]
     (conv=>whnf);skip;rw [dZ];exact bF.le (by decide)
    have lF:=iG;rw [<- kP] at lF;have yP:k<ls.length:=(List.getElem?_eq_some_iff.1 dh).1;rw [<- jq] at ga;have ea:=qC k _ ga;(conv=>whnf);skip;refine ⟨fun bx=>absurd (of_decide_eq_true bx) (by omega),fun bx=>?_⟩;(conv=>whnf);repeat ((first|(refine fy (i:=k) (by omega) ?_)|(refine fI gQ (.head _) (by omega) ga ?_)|(refine ix (enc:=ch) (i:=0) rfl ?_));conv=>whnf)
    have cd:((aW (dv ls)).take (t+1)).map (eL ls)=((aW (dv ls)).take t).map (eL ls)++[pp]:=by rw [cN lF,List.map_append];refine congrArg (_++[·]) ?_;show (ls.getD k []).getD (dz (dv ls) t k) ⟨[],0⟩=pp;rw [show ls.getD k []=l by rw [List.getD_eq_getElem?_getD,dh];rfl,List.getD_eq_getElem?_getD];have:=congrArg (fun z=>z[0]?) ma;simp only [List.getElem?_drop,Nat.add_zero,List.getElem?_cons_zero] at this;rw [this];rfl
    have wS:cur.set k rr=eT ls (dz (dv ls) (t+1)):=by rw [wK lF,jq,<- yN dh,ma];rfl
    have Jd:t<(aW (dv ls)).length:=(List.getElem?_eq_some_iff.1 lF).1;refine ⟨Nat.le_of_ble_eq_true rfl,fun q2=>?_⟩;(conv=>whnf);repeat ((first|(refine fy (i:=k) (by omega) ?_)|(refine fI gQ (by first|exact .head _|exact .tail _ (.head _)) (by omega) ga ?_)|(refine ⟨ag ⟨by decide,by rw [List.length_map,List.length_cons];omega,Int.le_refl _⟩,?_⟩));conv=>whnf)
    (conv=>whnf);have oS:List.drop (Int.toNat 1) (List.take ((((pp::rr).map ch).length:Int)).toNat ((pp::rr).map ch))=rr.map ch:=by rw [Int.toNat_natCast,List.take_length];rfl
    refine qx (enc:=ck) (L:=cur) rr (by decide) gQ (by rw [bq];exact yP) (by omega) (by unfold ck;rw [<- oS];rfl) (by first|exact .here _|exact .there (.here _)) ?_;(conv=>whnf);skip;exact ⟨_,_,ah.perm (List.Perm.swap _ _ _),_,(by omega),t+1,_,[(q2,.tok)],rfl,(by rw [wS]),rfl,by omega,by omega,.inr ⟨q2,(by rw [cd,eV];rfl),rfl⟩⟩
   have oR:(aW (dv ls)).take t=(aW (dv ls)).take most:=(by rw [show t=most by omega]);have dZ:cI ls most=((aW (dv ls)).take t).map (eL ls):=by unfold cI;rw [oR]
   (conv=>whnf);skip;rw [dZ];exact bF.le (by decide)
  skip;skip;(conv=>whnf);skip;refine ⟨fun hz=>?_,fun hz=>?_⟩<;>simp at hz
  ·have Ja:t<most:=(by omega);refine bD rfl mixed [0,1,5,6,7] [] (fun m r h=>∃ (i:Nat) (bi:Int),r=[(0,[],.aQ b 0 ls.length 1),(1,[],.int .i64 most),(5,[],.sl 1 (some q) ((((aW (dv ls)).take t).map (eL ls)).map ch)),(6,[],.int .i64 bi),(7,[],.int .i64 i)]/\h=(b,.vec (cur.map ck).flatten)::[(q,.tok)]/\m=ls.length - i/\i<=ls.length/\eU cur i bi) ?_ ?_
   ·(conv=>whnf);exact ⟨_,_,ah.refl _ _,_,0,-1,rfl,rfl,rfl,by omega,.inl ⟨rfl,fun j l hj=>by omega⟩⟩
   rintro m r h' ⟨i,bi,rfl,rfl,rfl,hi,hb⟩;(conv=>whnf);refine ⟨fun cx=>?_,fun cx=>?_⟩<;>simp at cx
   ·obtain ⟨li,dW⟩:=aF (l:=cur) (i:=i) (by omega);have Jb:=qC i li dW;have wR:-1<=bi/\bi<ls.length:=hb.lt (by omega);obtain ⟨lb,dF⟩:=aF (l:=cur) (i:=bi.toNat) (by omega);have Jc:=qC _ lb dF;have xv:=Qa (li.getD 0 ⟨[],0⟩) (lb.getD 0 ⟨[],0⟩) (Gq (Gr i li dW)) (Gq (Gr _ lb dF));(conv=>whnf);repeat ((first|(refine fy (i:=i) (by omega) ?_)|(refine fI gQ (.head _) (by omega) dW ?_)|(refine rG (enc:=ch) (⟨[],0⟩:cn) ?_ ?_;(focus (conv=>whnf;skip));(focus (intro h1 h2;simp only [decide_eq_true_eq,decide_eq_false_iff_not,List.length_map] at h1 h2;first|(show 0<=(0:Int)/\(0:Int)<(li.length:Int);omega)|(show 0<=(0:Int)/\(0:Int)<(lb.length:Int);have:=hb.full (by omega) dF;omega))))|(refine yA ?_ ?_;(focus (conv=>whnf;skip));(focus (intro h1 h2;simp only [decide_eq_true_eq,decide_eq_false_iff_not,List.length_map] at h1 h2;show 0<=bi/\bi<ls.length;omega)))|(refine fI gQ (.head _) (by omega) dF ?_)|refine aY (xv) ?_|refine And.intro (by show aJ (aH Tryz.f187 _) _=true;decide +kernel) ?_);conv=>whnf)
    refine ⟨fun bx=>?_,fun bx=>?_⟩
    ·(conv=>whnf);repeat (refine ⟨ag ⟨by omega,by omega⟩,?_⟩;conv=>whnf)
     (conv=>whnf);skip;exact ⟨_,_,ah.refl _ _,_,(by omega),i+1,i,rfl,rfl,rfl,by omega,(hb.step dW dF).1 (by simp at bx;omega) (by simp at bx;simpa using bx.2)⟩
    (conv=>whnf);repeat (refine ⟨ag ⟨by omega,by omega⟩,?_⟩;conv=>whnf)
    (conv=>whnf);skip;exact ⟨_,_,ah.refl _ _,_,(by omega),i+1,bi,rfl,rfl,rfl,by omega,(hb.step dW dF).2 (by rintro ⟨e1,e2⟩;simp at bx;simp at e2;have:=bx e1;omega)⟩
   obtain rfl:i=ls.length:=by omega
   rw [jq] at hb;rcases hb.end with ⟨rfl,mH⟩|⟨k,pp,rr,l,rfl,dh,ga,ma,iG⟩
   ·have oR:(aW (dv ls)).take t=(aW (dv ls)).take most:=by
     have hle:(aW (dv ls)).length<=t:=by
      rcases Nat.lt_or_ge t (aW (dv ls)).length with e|e
      ·obtain ⟨x,hx⟩:=aF e;rw [kP,mH] at hx;cases hx
      exact e
     rw [List.take_of_length_le hle,List.take_of_length_le (by omega)]
    (conv=>whnf);skip;refine ⟨fun bx=>?_,fun bx=>?_⟩<;>simp at bx
    have dZ:cI ls most=((aW (dv ls)).take t).map (eL ls):=by unfold cI;rw [oR]
    (conv=>whnf);skip;rw [dZ];exact bF.le (by decide)
   have lF:=iG;rw [<- kP] at lF;have yP:k<ls.length:=(List.getElem?_eq_some_iff.1 dh).1;rw [<- jq] at ga;have ea:=qC k _ ga;(conv=>whnf);skip;refine ⟨fun bx=>absurd (of_decide_eq_true bx) (by omega),fun bx=>?_⟩;(conv=>whnf);repeat ((first|(refine fy (i:=k) (by omega) ?_)|(refine fI gQ (.head _) (by omega) ga ?_)|(refine ix (enc:=ch) (i:=0) rfl ?_));conv=>whnf)
   have cd:((aW (dv ls)).take (t+1)).map (eL ls)=((aW (dv ls)).take t).map (eL ls)++[pp]:=by rw [cN lF,List.map_append];refine congrArg (_++[·]) ?_;show (ls.getD k []).getD (dz (dv ls) t k) ⟨[],0⟩=pp;rw [show ls.getD k []=l by rw [List.getD_eq_getElem?_getD,dh];rfl,List.getD_eq_getElem?_getD];have:=congrArg (fun z=>z[0]?) ma;simp only [List.getElem?_drop,Nat.add_zero,List.getElem?_cons_zero] at this;rw [this];rfl
   have wS:cur.set k rr=eT ls (dz (dv ls) (t+1)):=by rw [wK lF,jq,<- yN dh,ma];rfl
   have Jd:t<(aW (dv ls)).length:=(List.getElem?_eq_some_iff.1 lF).1;refine ⟨(by rw [List.length_append,fu];simp;unfold aN;omega),fun q2=>⟨_,.there (.here _),?_⟩⟩;(conv=>whnf);repeat ((first|(refine fy (i:=k) (by omega) ?_)|(refine fI gQ (by first|exact .head _|exact .tail _ (.head _)) (by omega) ga ?_)|(refine ⟨ag ⟨by decide,by rw [List.length_map,List.length_cons];omega,Int.le_refl _⟩,?_⟩));conv=>whnf)
   (conv=>whnf);have oS:List.drop (Int.toNat 1) (List.take ((((pp::rr).map ch).length:Int)).toNat ((pp::rr).map ch))=rr.map ch:=by rw [Int.toNat_natCast,List.take_length];rfl
   refine qx (enc:=ck) (L:=cur) rr (by decide) gQ (by rw [bq];exact yP) (by omega) (by unfold ck;rw [<- oS];rfl) (by first|exact .here _|exact .there (.here _)) ?_;(conv=>whnf);skip;exact ⟨_,_,ah.refl _ _,_,(by omega),t+1,_,[(q2,.tok)],rfl,(by rw [wS]),rfl,by omega,by omega,.inr ⟨q2,(by rw [cd,List.map_append];rfl),rfl⟩⟩
  have oR:(aW (dv ls)).take t=(aW (dv ls)).take most:=(by rw [show t=most by omega]);have dZ:cI ls most=((aW (dv ls)).take t).map (eL ls):=by unfold cI;rw [oR]
  (conv=>whnf);skip;rw [dZ];exact bF.le (by decide)
 intro v h1 hv;exact ⟨.sl 1 none ((cI ls most).map ch),[],⟨rfl,rfl⟩,hv,fun k o hm=>(by cases hm),fun _=>(by simp [keys])⟩
end Go.Abs.Wall.Spl
namespace Go.Abs.Wall.Spl
open Go Go.Abs Go.Proofs Go.Abs.Wall
open Go.Abs.Wall.Lst hiding al iW nG kQ ij dA nH lY nI nJ nK nL nM fj nO cm nP rH uc bW kS qB oO rI getAll cA vm oQ ch ck gQ cD eL eT pF rK yN CI eU eU.lt eU.full eU.step eU.end cI uf
def Dx (w:Wy):Wy:=⟨w.cost,w.aR+1,w.aO⟩
theorem Qb (rs:Nat->Nat):∀ (ls:List (List Int)) (k:Nat),kO rs ls (k+1)=(kO (fun j=>rs (j+1)) ls k).map Dx
 | [],k=>rfl
 | l::ls,k=>by
   unfold kO;rw [Qb rs ls (k+1)];cases l[rs (k+1)]? with
   | none=>rfl
   | some c=>
     cases kO (fun j=>rs (j+1)) ls (k+1) with
     | none=>rfl
     | some y=>
       show (if c<=y.cost then some ⟨c,k+1,rs (k+1)⟩ else some (Dx y))=Option.map Dx (if c<=y.cost then some ⟨c,k,rs (k+1)⟩ else some y);split<;>rfl
theorem Qc (cls:List (List Int)) (rs:Nat->Nat):fK ([]::cls) rs=(fK cls (fun j=>rs (j+1))).map Dx:=by unfold fK;rw [<- Qb];rfl
theorem Qd (cls:List (List Int)):∀ t,(fun j=>dz ([]::cls) t (j+1))=dz cls t
 | 0=>rfl
 | t+1=>by
   have ih:=Qd cls t;unfold dz at ih ⊢;rw [yE,yE,Qc,ih];cases fK cls (jH cls t mF) with
   | none=>exact ih
   | some x=>
     funext j;show up _ (x.aR+1) (j+1)=up _ x.aR j;unfold up;have h1:=congrFun ih x.aR;have h2:=congrFun ih j;try simp only at h1 h2
     by_cases e:j=x.aR
     ·rw [if_pos (by omega),if_pos e,h1]
     rw [if_neg (by omega),if_neg e,h2]
theorem XB (cls:List (List Int)):aW ([]::cls)=(aW cls).map Dx:=by refine List.ext_getElem? fun t=>?_;rw [kP,Qc,Qd,List.getElem?_map,kP]
theorem XC (ls:List (List cn)) (m:Nat):cI ([]::ls) m=cI ls m:=by unfold cI;show ((aW ([]::dv ls)).take m).map _=_;rw [XB,<- List.map_take,List.map_map];rfl
def Dy (t:fF):Int × az:=(t.sign,t.use)
def Dz (m:Mv):Int × az:=(m.sign,m.use)
structure qO (E:Env) (m:Nat) (x:bA) (rs:List cn):Prop where
 len:rs.length=((eA E x).take m).length
 at_:∀ (ρ:Nat) r,rs[ρ]?=some r->∃ w,(eA E x)[ρ]?=some w/\dm r=w.cost/\r.path.map Dy=(mT E x w).map Dz
def gF (t:fF) (r:cn):cn:=⟨t::r.path,r.fin⟩
theorem Qe (t:fF) (r:cn):dm (gF t r)=dm r+(t.cost*16+1):=by unfold dm mY gF xu;rw [List.map_cons,List.sum_cons,List.length_cons];push_cast;omega
theorem qO.keys {E:Env} {m:Nat} {x:bA} {rs:List cn} (h:qO E m x rs):rs.map dm=((eA E x).take m).map (·.cost):=by
 refine List.ext_getElem? fun ρ=>?_;rw [List.getElem?_map,List.getElem?_map];cases hr:rs[ρ]? with
 | none=>
   rw [List.getElem?_eq_none_iff,h.len] at hr;rw [List.getElem?_eq_none hr];rfl
 | some r=>
   have hl:=(List.getElem?_eq_some_iff.1 hr).1;rw [h.len,List.length_take] at hl;obtain ⟨w,h1,h2,_⟩:=h.at_ ρ r hr;rw [List.getElem?_take_of_lt (by omega),h1];show some (dm r)=some w.cost;rw [h2]
def Kl (E:Env) (m:Nat) (x:bA) (tail:List (List cn)):Prop:=
 tail.length=(di E x).length/\∀ (i:Nat) l mv,tail[i]?=some l->(di E x)[i]?=some mv->∃ t rs,Dy t=Dz mv/\t.cost=mv.cost/\qO E m mv.to rs/\l=rs.map (gF t)
def gp (E:Env) (x:bA):List (List cn):=if (ez E x).2=true then [[⟨[],(ez E x).1⟩]] else []
theorem AY {E:Env} (hE:gk E) {x:bA} (hx:gY E x) {m:Nat} (hm:1<=m) {tail:List (List cn)} (h:Kl E m x tail):qO E m x (cI (gp E x++tail) m):=by
 obtain ⟨hlen,cK⟩:=h;obtain ⟨l0,dw⟩:∃ l0:List cn,l0=if (ez E x).2=true then [⟨[],(ez E x).1⟩] else []:=⟨_,rfl⟩
 have XD:cI (gp E x++tail) m=cI (l0::tail) m:=by
  unfold gp;rw [dw];split
  ·rfl
  rw [List.nil_append,XC]
 have XE:dv (l0::tail)=(fO E x).map (·.take m):=by
  refine List.ext_getElem? fun j=>?_;cases j with
  | zero=>
    show some (l0.map dm)=some ((pH E x).take m);unfold pH;rw [dw];split
    ·obtain ⟨k,rfl⟩:∃ k,m=k+1:=⟨m - 1,by omega⟩;rw [List.take_succ_cons,List.take_nil,List.map_singleton];unfold dm mY xu;simp
    simp
  | succ j=>
    show (dv tail)[j]?=_;unfold dv;rw [List.getElem?_map,List.getElem?_map];cases hm:(di E x)[j]? with
    | none=>
      have h1:=List.getElem?_eq_none_iff.1 hm;rw [List.getElem?_eq_none (by omega),List.getElem?_eq_none (by rw [zh];omega)];rfl
    | some mv=>
      have h1:=(List.getElem?_eq_some_iff.1 hm).1;obtain ⟨l,hl⟩:=aF (l:=tail) (i:=j) (by omega);obtain ⟨t,rs,h2,h3,h4,rfl⟩:=cK j l mv hl hm;rw [hl,AM hm];show some ((rs.map (gF t)).map dm)=some (((eA E mv.to).map fun w=>w.cost+(mv.cost*16+1)).take m);rw [<- List.map_take,List.map_map];have h5:=congrArg (List.map fun k=>k+(mv.cost*16+1)) h4.keys;rw [List.map_map,List.map_map] at h5;refine congrArg some (Eq.trans ?_ h5);refine List.map_congr_left fun r _=>?_;show dm (gF t r)=dm r+(mv.cost*16+1);rw [Qe,h3]
 have XF:cI (gp E x++tail) m=((eA E x).take m).map (eL (l0::tail)):=by rw [XD];unfold cI;rw [XE,Oj,<- zg hE hx]
 rw [XF];refine ⟨List.length_map _,fun ρ r hr=>?_⟩;rw [List.getElem?_map] at hr;cases hw:((eA E x).take m)[ρ]? with
 | none=>rw [hw] at hr;cases hr
 | some w=>
   rw [hw] at hr;have hr:eL (l0::tail) w=r:=(by simpa using hr);have hρ:=(List.getElem?_eq_some_iff.1 hw).1;rw [List.length_take] at hρ;rw [List.getElem?_take_of_lt (by omega)] at hw;refine ⟨w,hw,?_⟩;by_cases he:w.aR=0
   ·obtain ⟨hp,hc,zs⟩:=FY hE hx hw he;rw [if_pos zs] at dw;have oP:=hw;rw [zg hE hx] at oP;obtain ⟨_,l,g2,g3⟩:=mG oP;rw [he,zi] at g2;cases g2
    unfold pH at g3;rw [if_pos zs] at g3;have rB:w.aO=0:=by have:=(List.getElem?_eq_some_iff.1 g3).1;simp at this;exact this
    rw [<- hr,hp,hc];unfold eL;rw [he,rB,dw];refine ⟨?_,rfl⟩;show dm ⟨[],(ez E x).1⟩=_;unfold dm mY xu;simp
   obtain ⟨mv,w',fD,bI,kR,ft,XG,rB⟩:=wP hE hx hw he;have h1:=(List.getElem?_eq_some_iff.1 fD).1;obtain ⟨l,hl⟩:=aF (l:=tail) (i:=w.aR - 1) (by omega);obtain ⟨t,rs,h2,h3,h4,rfl⟩:=cK _ l mv hl fD;have R7:=(List.getElem?_eq_some_iff.1 kR).1;obtain ⟨r',qw⟩:=aF (l:=rs) (i:=w.aO) (by rw [h4.len,List.length_take];omega);obtain ⟨w2,h5,h6,h7⟩:=h4.at_ _ _ qw;rw [kR] at h5;cases h5
   have XH:eL (l0::tail) w=gF t r':=by unfold eL;obtain ⟨i,hi⟩:∃ i,w.aR=i+1:=⟨w.aR - 1,by omega⟩;rw [hi] at hl ⊢;simp only [Nat.add_sub_cancel] at hl;rw [List.getD_eq_getElem?_getD,List.getD_eq_getElem?_getD,List.getElem?_cons_succ,hl];show ((rs.map (gF t))[w.aO]?).getD _=_;rw [List.getElem?_map,qw];rfl
   rw [<- hr,XH,Qe,h6,h3,ft,XG];refine ⟨rfl,?_⟩;show Dy t::r'.path.map Dy=Dz mv::(mT E mv.to w').map Dz;rw [h2,h7]
end Go.Abs.Wall.Spl
namespace Go.Abs.Wall.Spl
open Go Go.Abs Go.Proofs Go.Abs.Wall
open Go.Abs.Wall.Lst hiding al iW nG kQ ij dA nH lY nI nJ nK nL nM fj nO cm nP wP
def Km (E:Env):bA->List Mv->Prop
 | x,[]=>(ez E x).2=true
 | x,m::p=>m∈di E x/\Km E m.to p
def Kn (E:Env):bA->List Mv->Int
 | x,[]=>(ez E x).1*16
 | x,m::p=>Kn E m.to p+(m.cost*16+1)
theorem Qf {E:Env} (hE:gk E):∀ (d:Nat) (x:bA),gY E x->(12 - x.n).toNat=d->∀ (ρ:Nat) w,(eA E x)[ρ]?=some w->Km E x (mT E x w)/\Kn E x (mT E x w)=w.cost:=by
 intro d;induction d with
 | zero=>
   intro x hx hd ρ w hw;have hn:=hx.n;by_cases he:w.aR=0
   ·obtain ⟨h1,h2,h3⟩:=FY hE hx hw he;rw [h1];exact ⟨h3,h2.symm⟩
   obtain ⟨m,w',hm,bI,_⟩:=wP hE hx hw he;have:=bI.next;have:=bI.to.n;omega
 | succ d ih=>
   intro x hx hd ρ w hw;have hn:=hx.n;by_cases he:w.aR=0
   ·obtain ⟨h1,h2,h3⟩:=FY hE hx hw he;rw [h1];exact ⟨h3,h2.symm⟩
   obtain ⟨m,w',hm,bI,kR,hp,hc,_⟩:=wP hE hx hw he;have cz:=bI.next;obtain ⟨h1,h2⟩:=ih m.to bI.to (by omega) _ w' kR;rw [hp];refine ⟨⟨List.mem_of_getElem? hm,h1⟩,?_⟩;show Kn E m.to (mT E m.to w')+_=_;rw [h2,hc]
theorem Ko {E:Env} (hE:gk E):∀ (p:List Mv) (x:bA),gY E x->Km E x p->(p.length:Int)+x.n<=12
 | [],x,hx,hp=>by have:=hx.n;simp;omega
 | m::p,x,hx,hp=>by have bI:=rO hE hx hp.1;have:=Ko hE p m.to bI.to hp.2;have:=bI.next;rw [List.length_cons];omega
end Go.Abs.Wall.Spl
namespace Go.Abs.Wall.Spl
open Go Go.Abs Go.Proofs Go.Abs.Wall
def lg (s:RS):List AV:=[.int .i64 s.part,.int .i64 s.done,.int .i64 s.last,.bool s.cls]
def iN (t:List UInt8):List AV:=[.str t]
def jy (E:Env) (P:List (List UInt8)):List AV:=aZ E.H++(dO E.B++(fi E.dY++[.sl 1 none (P.map iN),.sl 1 none (xi E.ay)]))
def c217:av:=⟨[0,1,3,4],[],[],[],[],[]⟩
def c225:av:=⟨[0,1,4],[],[],[],[],[]⟩
def c226:av:=⟨[0,1,4],[],[],[],[],[]⟩
def c227:av:=⟨[0,1,3,4,5,6,10],[],[],[],[(6,[0,1,2,3,4,5,6,7,8,9,10,11,12,13],[])],[]⟩
def c186:av:=⟨[0,1,3,4,5,6],[],[],[],[(1,[0,1,2,3,4,5,6,7,8,9,10,11,12,13,14,15,16,17,18,19,20,21,22,23],[])],[]⟩
def c216:av:=⟨[0,1,2,5,6,7],[],[7],[],[(2,[0,1,2,3,4,5,6,7,8,9,10,11,12,13,14,15,16,17,18,19,20,21,22],[])],[]⟩
def c215:av:=⟨[0,1,3,4,5,9,17],[],[],[],[(4,[0,1,2,3,4,5],[])],[]⟩
def c214:av:=⟨[0,1,2,3,5,6,8,9,10,11,12,13,21,42,43,46,50,101,119,141],[5],[],[],[(4,[0,1,2,3,4,5,6,7,8,9,10,11,12],[]),(13,[0,1,2,3,4,5,6,7,8,9,10,11,12,13,14,15,16,17,18],[]),(16,[0,1,2,3,4,5,6,7,8,9,10,11,12,13,14,15,16,17,18,19,20,21,22,23],[]),(19,[0,1,2,3,4,5,6,7,8,9,10,11,12,13],[]),(21,[0,1,2,3,4,5,6,7,8,9,10,11,12,13,14,15,16,17,18,19,20,21],[]),(23,[0,1,2,3,4,5,6,7,8,9,10,11,12,13,14,15,16,17,18,19,20,21,22,23,24,25,26,27,28,29,30,31,32,33,34,35,36,37],[])],[]⟩
theorem Qg (E:Env) (P:List (List UInt8)) (s:RS):ab Tryz.prog 217 [.ai (jy E P),.agg (lg s)] [] (.bool (vL E s)):=by refine aA (F:=Tryz.f217) c217 rfl rfl rfl mixed rfl fun X=>?_;(conv=>whnf);skip;exact ⟨rfl,rfl⟩
theorem Gs (t w:List UInt8) (ht:t.length<=aq) (hw:w.length<=aq):ab Tryz.prog 225 [.str t,.str w] [] (.bool (fN t w)):=by
 unfold aq at ht hw;refine aA (F:=Tryz.f225) c225 rfl rfl rfl mixed rfl fun X=>?_;(conv=>whnf);repeat ((refine And.intro ?_ ?_;(focus ((conv=>whnf);intro g0;have g0:=of_decide_eq_true g0;refine ⟨?_,?_,?_⟩<;>omega)));conv=>whnf)
 exact ⟨rfl,rfl⟩
theorem XI (t w:List UInt8) (ht:t.length<=aq) (hw:w.length<=aq):ab Tryz.prog 226 [.str t,.str w] [] (.bool (oT t w)):=by
 unfold aq at ht hw;refine aA (F:=Tryz.f226) c226 rfl rfl rfl mixed rfl fun X=>?_;(conv=>whnf);repeat ((first|refine ⟨ag ⟨by omega,by omega⟩,?_⟩|(refine And.intro ?_ ?_;(focus ((conv=>whnf);intro g0;have g0:=of_decide_eq_true g0;refine ⟨?_,?_,?_⟩<;>omega))));conv=>whnf)
 refine ⟨congrArg AV.bool ?_,rfl⟩;unfold oT;rw [show (t.length:Int).toNat=t.length from rfl,List.take_length,show ((t.length:Int) - w.length).toNat=t.length - w.length by omega]
theorem DA {P:List (List UInt8)} {p:Int} (h:0<=p/\p<P.length):P[p.toNat]?=some (partAt P p):=by obtain ⟨t,ht⟩:=aF (l:=P) (i:=p.toNat) (by omega);unfold partAt;rw [List.getD_eq_getElem?_getD,ht];rfl
theorem Kp {P:List (List UInt8)} (hP:P.flatten.length<=1000) {p:Int} (h0:0<=p) (h1:p<P.length):(partAt P p).length<=1000:=by
 have h3:=ti h0 h1;have h4:=vM (P:=P) (p:=p+1) (q:=P.length) (by omega) (by omega);rw [AQ] at h4;have:0<=bO P p:=by unfold bO;omega
 omega
theorem XJ (E:Env) (P:List (List UInt8)) (xw:P.length<=1000) (hP:P.flatten.length<=1000) (s:RS) (hs:Can P s):ab Tryz.prog 227 [.ai (jy E P),.agg (lg s)] [] (.str (xm P s)):=by
 have h1:=hs.part;have h2:=hs.done;have FK:=fun (k:Nat) (hk:k<P.length)=>ti (P:=P) (p:=k) (by omega) (by omega);have hle:∀ k:Nat,k<=P.length->((P.take k).flatten.length:Int)<=1000:=by intro k hk;have h3:=vM (P:=P) (p:=k) (q:=P.length) (by omega) (by omega);rw [AQ] at h3;unfold bO at h3;rw [Int.toNat_natCast] at h3;omega
 have cM:∀ k:Int,0<=k->k<P.length->(partAt P k).length<=1000:=by
  intro k hk bg;have h3:=ti hk bg;have h4:=vM (P:=P) (p:=k+1) (q:=P.length) (by omega) (by omega);rw [AQ] at h4;have:0<=bO P k:=by unfold bO;omega
  omega
 refine aA (F:=Tryz.f227) c227 rfl rfl rfl mixed rfl fun X=>?_;(conv=>whnf);skip;refine bS rfl mixed [0,3,5,6] [] (fun m r h=>∃ (i:Nat),r=[(0,[],.ai (jy E P)),(3,[],.ai (lg s)),(5,[],.str (P.take i).flatten),(6,[],.int .i64 i)]/\h=[]/\m=s.part.toNat - i/\(i:Int)<=s.part) ?_ ?_
 ·(conv=>whnf);exact ⟨_,0,rfl,rfl,rfl,h1.1⟩
 rintro m r h ⟨i,rfl,rfl,rfl,hi⟩;(conv=>whnf);refine ⟨fun hc=>?_,fun hc=>?_⟩<;>simp at hc
 ·obtain ⟨t,ht⟩:=aF (l:=P) (i:=i) (by omega);have h3:=hle i (by omega);have h4:=hle (i+1) (by omega);have cd:(P.take (i+1)).flatten=(P.take i).flatten++t:=by rw [cN ht,List.flatten_append];simp
  rw [cd,List.length_append] at h4;(conv=>whnf);repeat ((first|refine ⟨ag ⟨by omega,by omega⟩,?_⟩|refine ix (by assumption) ?_|(refine ⟨ag (by rw [List.length_append];unfold aq;omega),?_⟩));conv=>whnf)
  rw [<- cd];exact ⟨_,by omega,i+1,rfl,rfl,rfl,by omega⟩
 have h3:=hle i (by omega);have hp:=DA h1;have h5:=cM s.part h1.1 h1.2;obtain ⟨n,hn⟩:=Int.eq_ofNat_of_zero_le h1.1;have aG:i=s.part.toNat:=(by omega);subst aG;(conv=>whnf);repeat ((first|refine ⟨ag ⟨by omega,by omega⟩,?_⟩|(refine cp (enc:=iN) s.part.toNat (by omega) hp ?_)|(refine ⟨ag (by rw [List.length_append,List.length_drop,List.length_take];unfold aq;omega),?_⟩)|refine And.intro (by show aJ (aH Tryz.f227 _) _=true;decide +kernel) ?_);conv=>whnf)
 exact ⟨rfl,rfl⟩
theorem XK (E:Env) (P:List (List UInt8)) (s:RS) (hs:Can P s) (xw:P.length<=1000):ab Tryz.prog 186 [.ai (jy E P),.agg (lg s)] [] (.bool (xn E P s)):=by
 have h1:=hs.part;have hp:=DA h1;have he:xn E P s=(((decide (s.part=((P.map iN).length:Int) - 1)&&nW P s)&&!((decide (E.B.cls=2)&&!decide (E.dY.cls=[]))&&!s.cls))&&!vL E s):=by unfold xn;rw [List.length_map]
 rw [he];refine aA (F:=Tryz.f186) c186 rfl rfl rfl mixed rfl fun X=>?_;(conv=>whnf);repeat ((first|(refine cp (enc:=iN) s.part.toNat (by omega) hp ?_)|refine aY (Qg E P s) ?_|(refine ⟨ag ⟨by rw [List.length_map];omega,by rw [List.length_map];omega⟩,?_⟩)|refine And.intro (by show aJ (aH Tryz.f186 _) _=true;decide +kernel) ?_);conv=>whnf)
 exact ⟨rfl,rfl⟩
theorem XL:pg Tryz.prog 297=true:=by decide +kernel
theorem XM (l:List RS) (s:RS) (hl:l.length<=1000000):ab Tryz.prog 215 [.sl 4 none (l.map lg),.agg (lg s)] [] (.int .i64 (l.idxOf s)):=by
 refine aA (F:=Tryz.f215) c215 rfl rfl rfl mixed rfl fun X=>?_;(conv=>whnf);skip;refine bS rfl mixed [0,3,5] [] (fun m r h=>∃ (i:Nat),r=[(0,[],.sl 4 none (l.map lg)),(3,[],.ai (lg s)),(5,[],.int .i64 i)]/\h=[]/\m=l.length - i/\i<=l.length/\l.idxOf s=i+(l.drop i).idxOf s) ?_ ?_
 ·(conv=>whnf);exact ⟨_,0,rfl,rfl,rfl,by omega,by simp⟩
 rintro m r h ⟨i,rfl,rfl,rfl,hi,hx⟩;(conv=>whnf);refine ⟨fun hc=>?_,fun hc=>?_⟩<;>simp at hc
 ·obtain ⟨t,ht⟩:=aF hc;rw [drop_cons ht,List.idxOf_cons] at hx;(conv=>whnf);repeat ((first|refine ix (by assumption) ?_|(refine ⟨XL,?_⟩)|refine And.intro (by show aJ (aH Tryz.f215 _) _=true;decide +kernel) ?_);conv=>whnf)
  have heq:(decide (t.part=s.part)&&(decide (t.done=s.done)&&(decide (t.last=s.last)&&(decide (t.cls=s.cls)&&true))))=(t == s):=by rw [Bool.eq_iff_iff,beq_iff_eq];obtain ⟨a1,a2,a3,a4⟩:=t;obtain ⟨b1,b2,b3,b4⟩:=s;simp
  rw [heq];refine ⟨fun hq=>?_,fun hq=>?_⟩
  ·rw [hq] at hx;(conv=>whnf);skip;exact ⟨by rw [hx];simp,rfl⟩
  rw [hq] at hx;(conv=>whnf);repeat (refine ⟨ag ⟨by omega,by omega⟩,?_⟩;conv=>whnf)
  exact ⟨_,by omega,i+1,rfl,rfl,rfl,by omega,by rw [hx];simp;omega⟩
 have bw:i=l.length:=(by omega);subst bw;rw [List.drop_length] at hx;(conv=>whnf);skip;exact ⟨by rw [hx];simp,rfl⟩
theorem XN (E:Env) (P:List (List UInt8)) (xw:P.length<=1000) (hP:P.flatten.length<=1000) (s:RS) (hs:Can P s) (u:az) (hu:u.text.length<=8) (first:Bool) (hl:0<=s.last/\s.last<=8) :
  ab Tryz.prog 214 [.ai (jy E P),.agg (lg s),.agg (aU u),.bool first] [] (.aB [.agg (lg (rS E P s u first).1),.bool (rS E P s u first).2]):=by
 have h1:=hs.part;have h2:=hs.done;have hp:=DA h1;have R8:=Kp hP h1.1 h1.2;refine ab.of ?_;refine aA (F:=Tryz.f214) c214 rfl rfl rfl mixed rfl fun X=>?_;(conv=>whnf);intro b5;(conv=>whnf);repeat ((first|(intro (b8:Nat))|refine ab.k0 (Qg E P s) ?_|refine ⟨_,_,.tail _ (.head _),rfl,?_⟩);conv=>whnf)
 refine ⟨fun h0=>?_,fun h0=>?_⟩
 ·have jG:rS E P s u first=(s,false):=by unfold rS;rw [if_pos h0]
  rw [jG];(conv=>whnf);repeat ((first|refine ⟨_,_,.head _,rfl,?_⟩|refine ⟨_,_,.tail _ (.head _),rfl,?_⟩|refine ⟨_,_,.here _,aI,?_⟩);conv=>whnf)
  exact aa.refl _
 have jG:rS E P s u first=if u.kind=1 then (if nW P s=false then (⟨s.part,s.done+u.text.length,ee u,s.cls⟩,fN ((partAt P s.part).drop s.done.toNat) u.text)
  else (⟨s.part+1,u.text.length,ee u,s.cls⟩,decide (s.part+1<P.length)&&fN (partAt P (s.part+1)) u.text))
 else if u.kind=2 then (⟨s.part,u.text.length,ee u,s.cls⟩,first&&decide (u.text=E.dY.root))
 else if u.kind=3 then (⟨s.part,s.done,0,s.cls⟩,(!decide (E.B.cV=0)&&decide ((u.text.length:Int)<=s.last))&&oT (xm P s) u.text)
 else if u.kind=4 then (⟨s.part,s.done,0,true⟩,((((!decide (E.B.cls=0))&&nW P s)&&decide (s.part=0))&&!s.cls)&&(!decide (E.dY.cls=[])&&decide (u.text=E.dY.cls)))
 else (⟨s.part,s.done,0,s.cls⟩,false):=by unfold rS;rw [if_neg (by rw [h0];decide)]
 rw [jG];(conv=>whnf);repeat ((first|(refine cp (enc:=iN) s.part.toNat (by omega) hp ?_)|refine ⟨_,_,.tail _ (.head _),rfl,?_⟩|refine ⟨_,_,.there (.here _),aI,?_⟩|refine And.intro (by show aJ (aH Tryz.f214 _) _=true;decide +kernel) ?_);conv=>whnf)
 refine ⟨fun k1=>?_,fun k1=>?_⟩<;>simp at k1
 ·rw [if_pos k1];(conv=>whnf);repeat (refine ab.k0 (Kk u) ?_;conv=>whnf)
  refine ⟨fun hh=>?_,fun hh=>?_⟩
  ·have hv:ee u=u.text.length:=(by rw [ee,if_pos hh]);rw [hv];(conv=>whnf);repeat (refine ⟨_,_,.there (.here _),aI,?_⟩;conv=>whnf)
   refine ⟨fun hw=>?_,fun hw=>?_⟩
   ·have hw:(!nW P s)=true:=hw;rw [Bool.not_eq_true'] at hw;rw [if_pos hw];have oS:List.drop (s.done+(u.text.length:Int) - u.text.length).toNat (List.take ((partAt P s.part).length:Int).toNat (partAt P s.part))=(partAt P s.part).drop s.done.toNat:=(by rw [Int.toNat_natCast,List.take_length,show s.done+(u.text.length:Int) - u.text.length=s.done by omega]);have ax:=Gs ((partAt P s.part).drop s.done.toNat) u.text (by rw [List.length_drop];unfold aq;omega) (by unfold aq;omega);rw [<- oS] at ax;(conv=>whnf);repeat ((first|refine ⟨ag ⟨by omega,by omega⟩,?_⟩|(refine cp (enc:=iN) s.part.toNat (by omega) hp ?_)|(refine ⟨_,ag (ab.wide ax _),?_⟩)|refine ⟨_,_,.head _,rfl,?_⟩|refine ⟨_,_,.tail _ (.head _),rfl,?_⟩|refine ⟨_,_,.here _,aI,?_⟩|refine ⟨_,_,.there (.here _),aI,?_⟩|refine And.intro (by show aJ (aH Tryz.f214 _) _=true;decide +kernel) ?_);conv=>whnf)
    rw [oS];exact fun c u h=>h
   have hw:(!nW P s)=false:=hw;rw [Bool.not_eq_false'] at hw;rw [if_neg (by rw [hw];decide)];by_cases cX:s.part+1<P.length
   ·have rP:=DA (P:=P) (p:=s.part+1) ⟨by omega,cX⟩;have Qh:=Kp hP (p:=s.part+1) (by omega) cX;have ax:=Gs (partAt P (s.part+1)) u.text (by unfold aq;omega) (by unfold aq;omega);have he:((P.map iN).length:Int)=P.length:=(by rw [List.length_map]);(conv=>whnf);repeat ((first|refine ⟨ag ⟨by omega,by omega⟩,?_⟩|(refine cp (enc:=iN) (s.part+1).toNat (by omega) rP ?_)|(refine ⟨_,ag (ab.wide ax _),?_⟩)|refine ⟨_,_,.head _,rfl,?_⟩|refine ⟨_,_,.tail _ (.head _),rfl,?_⟩|refine ⟨_,_,.here _,aI,?_⟩|refine ⟨_,_,.there (.here _),aI,?_⟩|refine And.intro (by show aJ (aH Tryz.f214 _) _=true;decide +kernel) ?_);conv=>whnf)
    refine (show aa (.aB [.agg (lg ⟨s.part+1,u.text.length,_,s.cls⟩),.bool (decide (s.part+1<((P.map iN).length:Int))&&fN (partAt P (s.part+1)) u.text)]) _ from ?_);rw [he];exact aa.refl _
   have he:decide (s.part+1<((P.map iN).length:Int))=false:=decide_eq_false (by rw [List.length_map];exact cX);(conv=>whnf);repeat ((first|refine ⟨ag ⟨by omega,by omega⟩,?_⟩|(refine ⟨0,iN (partAt P s.part),?_,?_⟩;(focus (conv=>whnf;skip));(focus (intro hq;rw [he] at hq;cases hq)))|(refine ⟨.bool false,?_,?_⟩;(focus (conv=>whnf;skip));(focus (intro hq;rw [he] at hq;cases hq)))|refine ⟨_,_,.head _,rfl,?_⟩|refine ⟨_,_,.tail _ (.head _),rfl,?_⟩|refine ⟨_,_,.here _,aI,?_⟩|refine ⟨_,_,.there (.here _),aI,?_⟩|refine And.intro (by show aJ (aH Tryz.f214 _) _=true;decide +kernel) ?_);conv=>whnf)
   rw [decide_eq_false cX,he];exact fun c u h=>h
  have hv:ee u=0:=(by rw [ee,if_neg (by rw [hh];decide)]);rw [hv];(conv=>whnf);skip;refine ⟨fun hw=>?_,fun hw=>?_⟩
  ·have hw:(!nW P s)=true:=hw;rw [Bool.not_eq_true'] at hw;rw [if_pos hw];have oS:List.drop (s.done+(u.text.length:Int) - u.text.length).toNat (List.take ((partAt P s.part).length:Int).toNat (partAt P s.part))=(partAt P s.part).drop s.done.toNat:=(by rw [Int.toNat_natCast,List.take_length,show s.done+(u.text.length:Int) - u.text.length=s.done by omega]);have ax:=Gs ((partAt P s.part).drop s.done.toNat) u.text (by rw [List.length_drop];unfold aq;omega) (by unfold aq;omega);rw [<- oS] at ax;(conv=>whnf);repeat ((first|refine ⟨ag ⟨by omega,by omega⟩,?_⟩|(refine cp (enc:=iN) s.part.toNat (by omega) hp ?_)|(refine ⟨_,ag (ab.wide ax _),?_⟩)|refine ⟨_,_,.head _,rfl,?_⟩|refine ⟨_,_,.tail _ (.head _),rfl,?_⟩|refine ⟨_,_,.here _,aI,?_⟩|refine ⟨_,_,.there (.here _),aI,?_⟩|refine And.intro (by show aJ (aH Tryz.f214 _) _=true;decide +kernel) ?_);conv=>whnf)
   rw [oS];exact fun c u h=>h
  have hw:(!nW P s)=false:=hw;rw [Bool.not_eq_false'] at hw;rw [if_neg (by rw [hw];decide)];by_cases cX:s.part+1<P.length
  ·have rP:=DA (P:=P) (p:=s.part+1) ⟨by omega,cX⟩;have Qh:=Kp hP (p:=s.part+1) (by omega) cX;have ax:=Gs (partAt P (s.part+1)) u.text (by unfold aq;omega) (by unfold aq;omega);have he:((P.map iN).length:Int)=P.length:=(by rw [List.length_map]);(conv=>whnf);repeat ((first|refine ⟨ag ⟨by omega,by omega⟩,?_⟩|(refine cp (enc:=iN) (s.part+1).toNat (by omega) rP ?_)|(refine ⟨_,ag (ab.wide ax _),?_⟩)|refine ⟨_,_,.head _,rfl,?_⟩|refine ⟨_,_,.tail _ (.head _),rfl,?_⟩|refine ⟨_,_,.here _,aI,?_⟩|refine ⟨_,_,.there (.here _),aI,?_⟩|refine And.intro (by show aJ (aH Tryz.f214 _) _=true;decide +kernel) ?_);conv=>whnf)
   refine (show aa (.aB [.agg (lg ⟨s.part+1,u.text.length,_,s.cls⟩),.bool (decide (s.part+1<((P.map iN).length:Int))&&fN (partAt P (s.part+1)) u.text)]) _ from ?_);rw [he];exact aa.refl _
  have he:decide (s.part+1<((P.map iN).length:Int))=false:=decide_eq_false (by rw [List.length_map];exact cX);(conv=>whnf);repeat ((first|refine ⟨ag ⟨by omega,by omega⟩,?_⟩|(refine ⟨0,iN (partAt P s.part),?_,?_⟩;(focus (conv=>whnf;skip));(focus (intro hq;rw [he] at hq;cases hq)))|(refine ⟨.bool false,?_,?_⟩;(focus (conv=>whnf;skip));(focus (intro hq;rw [he] at hq;cases hq)))|refine ⟨_,_,.head _,rfl,?_⟩|refine ⟨_,_,.tail _ (.head _),rfl,?_⟩|refine ⟨_,_,.here _,aI,?_⟩|refine ⟨_,_,.there (.here _),aI,?_⟩|refine And.intro (by show aJ (aH Tryz.f214 _) _=true;decide +kernel) ?_);conv=>whnf)
  rw [decide_eq_false cX,he];exact fun c u h=>h
 rw [if_neg k1];(conv=>whnf);skip;refine ⟨fun k2=>?_,fun k2=>?_⟩<;>simp at k2
 ·have hv:ee u=u.text.length:=by unfold ee jx;rw [decide_eq_true k2];rfl
  rw [if_pos k2,hv];(conv=>whnf);repeat ((first|refine ⟨_,_,.head _,rfl,?_⟩|refine ⟨_,_,.tail _ (.head _),rfl,?_⟩|refine ⟨_,_,.here _,aI,?_⟩|refine ⟨_,_,.there (.here _),aI,?_⟩|refine And.intro (by show aJ (aH Tryz.f214 _) _=true;decide +kernel) ?_);conv=>whnf)
  exact fun c u h=>h
 rw [if_neg k2];(conv=>whnf);skip;refine ⟨fun k3=>?_,fun k3=>?_⟩<;>simp at k3
 ·have mA:=XJ E P xw hP ⟨s.part,s.done,0,s.cls⟩ ⟨h1,h2,hs.pos⟩;have fl:(xm P ⟨s.part,s.done,0,s.cls⟩).length<=1000:=by show (xm P s).length<=1000;rw [<- PC hs,List.length_take];omega
  have Gt:=XI (xm P ⟨s.part,s.done,0,s.cls⟩) u.text (by unfold aq;omega) (by unfold aq;omega);rw [if_pos k3];(conv=>whnf);repeat ((first|(refine ⟨_,ag (ab.wide mA _),?_⟩)|(refine ⟨_,ag (ab.wide Gt _),?_⟩)|refine ⟨_,_,.head _,rfl,?_⟩|refine ⟨_,_,.tail _ (.head _),rfl,?_⟩|refine ⟨_,_,.here _,aI,?_⟩|refine And.intro (by show aJ (aH Tryz.f214 _) _=true;decide +kernel) ?_);conv=>whnf)
  exact fun c u h=>h
 rw [if_neg k3];(conv=>whnf);skip;refine ⟨fun k4=>?_,fun k4=>?_⟩<;>simp at k4
 ·rw [if_pos k4,<- Bool.and_assoc];(conv=>whnf);repeat ((first|refine ⟨_,_,.head _,rfl,?_⟩|refine ⟨_,_,.tail _ (.head _),rfl,?_⟩|refine ⟨_,_,.here _,aI,?_⟩|refine ⟨_,_,.there (.here _),aI,?_⟩|refine And.intro (by show aJ (aH Tryz.f214 _) _=true;decide +kernel) ?_);conv=>whnf)
  exact fun c u h=>h
 rw [if_neg k4];(conv=>whnf);repeat ((first|refine ⟨_,_,.head _,rfl,?_⟩|refine ⟨_,_,.tail _ (.head _),rfl,?_⟩|refine ⟨_,_,.here _,aI,?_⟩);conv=>whnf)
 exact fun c u h=>h
end Go.Abs.Wall.Spl
