/- What is proved: small laws for the walks of this seat, and contracts of its functions. No condition but those each theorem names. -/
import Derived.Test.YtbmcnieifibckaaGreatN23
import Derived.Test.YtbmcnieifibckaaGreatN16
import Derived.Test.YtbmcnieifibckaaGreatN21
import Derived.Test.YtbmcnieifibckaaGreatN17
import Derived.Test.YtbmcnieifibckaaGreatN19
import Derived.Test.YtbmcnieifibckaaGreatN26
set_option maxRecDepth 100000
set_option maxHeartbeats 2000000
set_option linter.unusedVariables false
set_option linter.unusedSimpArgs false
namespace Go.Abs.Wall.Spl
open Go Go.Abs Go.Proofs Go.Abs.Wall
open Go.Abs.Wall.Lst hiding al gL lq jg gk da lr kd lu lx ly lz lA ef lB cg lC oY qT bW jE og mD oZ getAll cp xS pY db fV iw cA fE eI pg qV xT BJ eJ eJ.lt eJ.full eJ.step eJ.end eT El
structure Fk where
 sign:Int
 cost:Int
 to:Nat
 use:ao
structure ei where
 path:List Fk
 fin:Int
def Ps (p:List Fk):Int:=(p.map (·.cost)).sum
def Fl (r:ei):Int:=r.fin+Ps r.path
def fm (r:ei):Int:=Fl r*16+r.path.length
def WU (t:Fk):List AV:=[.int .i64 t.sign,.int .i64 t.cost,.int .i64 t.to]++aT t.use
def xS (c:Int):List Fk->List AV
 | []=>[.int .i64 0,.int .i64 0,.int .i64 0,.int .i64 0,.str [],.jV]
 | t::p=>WU t++[.au (.int .i64 (c+Ps p)::.int .i64 p.length::xS c p)]
def pY (r:ei):List AV:=.int .i64 (Fl r)::.int .i64 r.path.length::xS r.fin r.path
def db (r:ei):List AV:=[.au (pY r)]
def fV (l:List ei):List AV:=[.sl 1 none (l.map db)]
theorem iw (l:List ei):(fV l).length=1:=rfl
def dA (ls:List (List ei)):List (List Int):=ls.map fun l=>l.map fm
def fE (ls:List (List ei)) (w:Wy):ei:=(ls.getD w.aP []).getD w.aO ⟨[],0⟩
def eI (ls:List (List ei)) (rs:Nat->Nat):List (List ei):=ls.mapIdx fun k l=>l.drop (rs k)
theorem pg (ls:List (List ei)) (rs:Nat->Nat):(eI ls rs).length=ls.length:=by simp [eI]
theorem qV {ls:List (List ei)} {rs:Nat->Nat} {k:Nat} {l:List ei} (h:ls[k]?=some l):(eI ls rs)[k]?=some (l.drop (rs k)):=by unfold eI;rw [List.getElem?_mapIdx,h];rfl
theorem xT {ls:List (List ei)} {rs:Nat->Nat} {k:Nat} {l:List ei} (h:ls[k]?=some l):(eI ls rs).set k ((l.drop (rs k)).drop 1)=eI ls (up rs k):=by
 refine List.ext_getElem? fun j=>?_;by_cases hj:j=k
 ·subst hj;rw [List.getElem?_set_self (by rw [pg];exact (List.getElem?_eq_some_iff.1 h).1),qV h,List.drop_drop];unfold up;rw [if_pos rfl,Nat.add_comm]
 rw [List.getElem?_set_ne (Ne.symm hj)];unfold eI;rw [List.getElem?_mapIdx,List.getElem?_mapIdx];unfold up;rw [if_neg hj]
theorem BJ (ls:List (List ei)):eI ls nm=ls:=by unfold eI nm;refine List.ext_getElem? fun j=>?_;rw [List.getElem?_mapIdx];cases ls[j]?<;>rfl
def eJ (cur:List (List ei)) (i:Nat) (b:Int):Prop:=
 (b = -1/\∀ j l,j<i->cur[j]?=some l->l=[]) \/
 ∃ (k:Nat) (p:ei) (r:List ei),b=(k:Int)/\k<i/\cur[k]?=some (p::r)/\∀ (j:Nat) q s,j<i->cur[j]?=some (q::s)->fm p<fm q\/(fm p=fm q/\k<=j)
theorem eJ.lt {cur:List (List ei)} {i:Nat} {b:Int} {n:Nat} (h:eJ cur i b) (hi:i<=n):-1<=b/\b<n:=by rcases h with ⟨rfl,_⟩|⟨k,p,r,rfl,hk,_⟩<;>omega
theorem eJ.full {cur:List (List ei)} {i:Nat} {b:Int} {lb:List ei} (h:eJ cur i b) (hb:0<=b) (dC:cur[b.toNat]?=some lb):0<lb.length:=by
 rcases h with ⟨rfl,_⟩|⟨k,p,r,rfl,hk,hc,_⟩
 ·omega
 rw [Int.toNat_natCast,hc] at dC;cases dC
 simp
theorem eJ.step {cur:List (List ei)} {i:Nat} {b:Int} {li lb:List ei} (h:eJ cur i b) (dK:cur[i]?=some li) (dC:cur[b.toNat]?=some lb) :
  (0<li.length->(b<0\/fm (li.getD 0 ⟨[],0⟩)<fm (lb.getD 0 ⟨[],0⟩))->eJ cur (i+1) i)/\(¬ (0<li.length/\(b<0\/fm (li.getD 0 ⟨[],0⟩)<fm (lb.getD 0 ⟨[],0⟩)))->eJ cur (i+1) b):=by
 have xU:∀ (j:Nat),j<i+1->j<i\/j=i:=fun j hj=>by omega
 constructor
 ·intro h1 h2;cases li with
  | nil=>simp at h1
  | cons p r=>
    refine .inr ⟨i,p,r,rfl,by omega,dK,fun j q s hj hq=>?_⟩;rcases xU j hj with hj|rfl
    ·left;rcases h with ⟨rfl,he⟩|⟨k,p',r',rfl,hk,hc,hm⟩
     ·have:=he j _ hj hq;cases this
     rw [Int.toNat_natCast,hc] at dC;cases dC
     have h3:fm p<fm p':=by
      rcases h2 with h2|h2
      ·omega
      simpa using h2
     rcases hm j q s hj hq with e|⟨e,_⟩<;>omega
    rw [dK] at hq;cases hq
    exact .inr ⟨rfl,Nat.le_refl _⟩
 intro hn;rcases h with ⟨rfl,he⟩|⟨k,p,r,rfl,hk,hc,hm⟩
 ·refine .inl ⟨rfl,fun j l hj hl=>?_⟩;rcases xU j hj with hj|rfl
  ·exact he j l hj hl
  rw [dK] at hl;cases hl
  refine Classical.byContradiction fun aI=>hn ⟨List.length_pos_iff.2 aI,.inl (by omega)⟩
 refine .inr ⟨k,p,r,rfl,by omega,hc,fun j q s hj hq=>?_⟩;rcases xU j hj with hj|rfl
 ·exact hm j q s hj hq
 rw [dK] at hq;cases hq
 rw [Int.toNat_natCast,hc] at dC;cases dC
 have:¬ fm q<fm p:=fun e=>hn ⟨by simp,.inr (by simpa using e)⟩;by_cases e:fm p<fm q
 ·exact .inl e
 exact .inr ⟨by omega,by omega⟩
theorem eJ.end {ls:List (List ei)} {rs:Nat->Nat} {b:Int} (h:eJ (eI ls rs) ls.length b) :
  (b = -1/\gK (dA ls) rs=none)\/∃ (k:Nat) (p:ei) (r:List ei) (l:List ei),b=(k:Int)/\ls[k]?=some l/\(eI ls rs)[k]?=some (p::r)/\l.drop (rs k)=p::r/\gK (dA ls) rs=some ⟨fm p,k,rs k⟩:=by
 have uD:∀ x,ik (dA ls) rs x->∃ q s,(eI ls rs)[x.aP]?=some (q::s)/\fm q=x.cost:=by
  rintro x ⟨h1,l,h2,h3⟩;unfold dA at h2;rw [List.getElem?_map] at h2;cases hl:ls[x.aP]? with
  | none=>rw [hl] at h2;cases h2
  | some l0=>
    rw [hl] at h2;cases h2
    rw [List.getElem?_map,h1] at h3;cases hq:l0[rs x.aP]? with
    | none=>rw [hq] at h3;cases h3
    | some q=>
      rw [hq] at h3;refine ⟨q,l0.drop (rs x.aP+1),?_,by simpa using h3⟩;rw [qV hl,drop_cons hq]
 rcases h with ⟨rfl,he⟩|⟨k,p,r,rfl,hk,hc,hm⟩
 ·left;refine ⟨rfl,Hi fun x hx=>?_⟩;obtain ⟨q,s,h1,_⟩:=uD x hx;have aL:=(List.getElem?_eq_some_iff.1 h1).1;rw [pg] at aL;have:=he x.aP _ aL h1;cases this
 right;obtain ⟨l,hl⟩:=aN (l:=ls) hk;have hd:l.drop (rs k)=p::r:=by have:=qV (rs:=rs) hl;rw [hc] at this;exact (Option.some.inj this).symm
 have hp:l[rs k]?=some p:=by have:=congrArg (fun z=>z[0]?) hd;simpa [List.getElem?_drop] using this
 refine ⟨k,p,r,l,rfl,hl,hc,hd,Hh ⟨rfl,l.map fm,?_,?_⟩ fun y hy=>?_⟩
 ·unfold dA;rw [List.getElem?_map,hl];rfl
 ·show (l.map fm)[rs k]?=some (fm p);rw [List.getElem?_map,hp];rfl
 obtain ⟨q,s,h1,h2⟩:=uD y hy;have aL:=(List.getElem?_eq_some_iff.1 h1).1;rw [pg] at aL;rcases hm y.aP q s aL h1 with e|⟨e1,e2⟩
 ·exact .inr (.inl (by show fm p<y.cost;omega))
 by_cases e3:y.aP=k
 ·left;refine ik.eq hy ⟨rfl,l.map fm,?_,?_⟩ e3
  ·unfold dA;rw [List.getElem?_map,hl];rfl
  show (l.map fm)[rs k]?=some (fm p);rw [List.getElem?_map,hp];rfl
 exact .inr (.inr ⟨by show fm p=y.cost;omega,by show k<y.aP;omega⟩)
def c167:aw:=⟨[0,1,4,13],[],[],[],[(1,[0,1,2,3,4,5,6,7,8],[]),(2,[0,1,2,3,4,5,6,7,8,9],[]),(3,[0,1,2,3,4,5,6,7,8,9],[])],[]⟩
theorem Pt (x y:ei) (hx:x.path.length<=15) (hy:y.path.length<=15):ae Tryz.prog 167 [.au (pY x),.au (pY y)] [] (.bool (decide (fm x<fm y))):=by
 refine aG (F:=Tryz.f167) c167 rfl rfl rfl mixed rfl fun X=>?_;(conv=>whnf);repeat (refine And.intro (by show aJ (aH Tryz.f167 _) _=true;decide +kernel) ?_;conv=>whnf)
 refine ⟨fun h0=>?_,fun h0=>?_⟩<;>simp at h0
 ·have he:decide (fm x<fm y)=decide (Fl x<Fl y):=by
   refine decide_eq_decide.2 ?_;unfold fm;omega
  rw [he];(conv=>whnf);repeat (refine And.intro (by show aJ (aH Tryz.f167 _) _=true;decide +kernel) ?_;conv=>whnf)
  exact ⟨rfl,rfl⟩
 have he:decide (fm x<fm y)=decide ((x.path.length:Int)<y.path.length):=by refine decide_eq_decide.2 ?_;unfold fm;omega
 rw [he];(conv=>whnf);repeat (refine And.intro (by show aJ (aH Tryz.f167 _) _=true;decide +kernel) ?_;conv=>whnf)
 exact ⟨rfl,rfl⟩
theorem Fm {l:List ei} (h:∀ r∈l,r.path.length<=15):(l.getD 0 ⟨[],0⟩).path.length<=15:=by
 rw [List.getD_eq_getElem?_getD];cases hq:l[0]? with
 | none=>exact Nat.zero_le _
 | some r=>exact h r (List.mem_of_getElem? hq)
def eT (ls:List (List ei)) (most:Nat):List ei:=((aY (dA ls)).take most).map (fE ls)
def c109:aw:=⟨[0,1,4,5,6,7,11,15,42,45],[],[],[],[(7,[0,1,2,3,4,5,6,7,8,9,10,11,12,13,14,15,16,17,18,19,20,21,22,23,24],[])],[]⟩
theorem El (ls:List (List ei)) (aI:0<ls.length) (hl:ls.length<=65536) (lH:∀ l∈ls,l.length<=65536) (dN:∀ l∈ls,∀ r∈l,r.path.length<=15) (most:Nat) (hm:most<=64) (b:Nat) :
  ay Tryz.prog 109 [.aR b 0 ls.length 1,.int .i64 most] [(b,.vec (ls.map fV).flatten)] (fun v h'=>v=.sl 1 none ((eT ls most).map db)/\h'=[]):=by
 refine ay.post (R:=fun v h'=>ag v (.sl 1 none ((eT ls most).map db))) ?_ ?_
 ·refine aG (F:=Tryz.f109) c109 rfl rfl rfl mixed rfl fun X=>?_;(conv=>whnf);skip;refine cy rfl mixed [0,1,5] [] (fun m r h=>∃ (t:Nat) (ov:AV) (oh:ab),r=[(0,[],.aR b 0 ls.length 1),(1,[],.int .i64 most),(5,[],ov)]/\h=(b,.vec ((eI ls (cX (dA ls) t)).map fV).flatten)::oh/\m=65 - t/\t<=most/\t<=(aY (dA ls)).length/\Out 1 db (((aY (dA ls)).take t).map (fE ls)) ov oh) ?_ ?_
  ·(conv=>whnf);exact ⟨_,_,ar.refl _ _,_,0,.aW,[],rfl,by rw [show cX (dA ls) 0=nm from rfl,BJ],rfl,by omega,by omega,.inl ⟨by simp,rfl,rfl⟩⟩
  rintro m r h' ⟨t,ov,oh,rfl,rfl,rfl,xt,gx,ho⟩;have bD:=ho;have mE:(((aY (dA ls)).take t).map (fE ls)).length=t:=by rw [List.length_map,List.length_take];omega
  obtain ⟨cur,jl⟩:∃ cur,cur=eI ls (cX (dA ls) t):=⟨_,rfl⟩;have bw:cur.length=ls.length:=by rw [jl,pg]
  have pZ:∀ (k:Nat) l,cur[k]?=some l->l.length<=65536:=by
   intro k l hk;rw [jl] at hk;have aL:=(List.getElem?_eq_some_iff.1 hk).1;rw [pg] at aL;obtain ⟨l0,ep⟩:=aN (l:=ls) aL;rw [qV ep] at hk;cases hk
   have:=lH l0 (List.mem_of_getElem? ep);rw [List.length_drop];omega
  have Fo:∀ (k:Nat) l,cur[k]?=some l->∀ r∈l,r.path.length<=15:=by
   intro k l hk r hr;rw [jl] at hk;have aL:=(List.getElem?_eq_some_iff.1 hk).1;rw [pg] at aL;obtain ⟨l0,ep⟩:=aN (l:=ls) aL;rw [qV ep] at hk;cases hk
   exact dN l0 (List.mem_of_getElem? ep) r (List.mem_of_mem_drop hr)
  rw [<- jl];have jb:((((aY (dA ls)).take t).map (fE ls)).map db).length=t:=by rw [List.length_map];exact mE
  rcases ho with ⟨ph,rfl,rfl⟩|⟨q,rfl,rfl⟩
  ·have HE:t=0:=by rw [ph] at mE;exact mE.symm
   skip;(conv=>whnf);skip;refine ⟨fun hz=>?_,fun hz=>?_⟩<;>simp at hz
   ·have HL:t<most:=(by omega);refine cy rfl mixed [0,1,5,6,7] [] (fun m r h=>∃ (i:Nat) (bi:Int),r=[(0,[],.aR b 0 ls.length 1),(1,[],.int .i64 most),(5,[],.aW),(6,[],.int .i64 bi),(7,[],.int .i64 i)]/\h=(b,.vec (cur.map fV).flatten)::[]/\m=ls.length - i/\i<=ls.length/\eJ cur i bi) ?_ ?_
    ·(conv=>whnf);exact ⟨_,_,ar.refl _ _,_,0,-1,rfl,rfl,rfl,by omega,.inl ⟨rfl,fun j l hj=>by omega⟩⟩
    rintro m r h' ⟨i,bi,rfl,rfl,rfl,hi,hb⟩;(conv=>whnf);refine ⟨fun eX=>?_,fun eX=>?_⟩<;>simp at eX
    ·obtain ⟨li,dK⟩:=aN (l:=cur) (i:=i) (by omega);have HM:=pZ i li dK;have vY:-1<=bi/\bi<ls.length:=hb.lt (by omega);obtain ⟨lb,dC⟩:=aN (l:=cur) (i:=bi.toNat) (by omega);have HO:=pZ _ lb dC;have wG:=Pt (li.getD 0 ⟨[],0⟩) (lb.getD 0 ⟨[],0⟩) (Fm (Fo i li dK)) (Fm (Fo _ lb dC));(conv=>whnf);repeat ((first|(refine iK (i:=i) (by omega) ?_)|(refine ft iw (.head _) (by omega) dK ?_)|(refine qQ (enc:=db) (⟨[],0⟩:ei) ?_ ?_;(focus (conv=>whnf;skip));(focus (intro h1 h2;simp only [decide_eq_true_eq,decide_eq_false_iff_not,List.length_map] at h1 h2;first|(show 0<=(0:Int)/\(0:Int)<(li.length:Int);omega)|(show 0<=(0:Int)/\(0:Int)<(lb.length:Int);have:=hb.full (by omega) dC;omega))))|(refine xI ?_ ?_;(focus (conv=>whnf;skip));(focus (intro h1 h2;simp only [decide_eq_true_eq,decide_eq_false_iff_not,List.length_map] at h1 h2;show 0<=bi/\bi<ls.length;omega)))|(refine ft iw (.head _) (by omega) dC ?_)|refine aX (wG) ?_|refine And.intro (by show aJ (aH Tryz.f109 _) _=true;decide +kernel) ?_);conv=>whnf)
     refine ⟨fun bF=>?_,fun bF=>?_⟩
     ·(conv=>whnf);repeat (refine ⟨af ⟨by omega,by omega⟩,?_⟩;conv=>whnf)
      (conv=>whnf);skip;exact ⟨_,_,ar.refl _ _,_,(by omega),i+1,i,rfl,rfl,rfl,by omega,(hb.step dK dC).1 (by simp at bF;omega) (by simp at bF;simpa using bF.2)⟩
     (conv=>whnf);repeat (refine ⟨af ⟨by omega,by omega⟩,?_⟩;conv=>whnf)
     (conv=>whnf);skip;exact ⟨_,_,ar.refl _ _,_,(by omega),i+1,bi,rfl,rfl,rfl,by omega,(hb.step dK dC).2 (by rintro ⟨e1,e2⟩;simp at bF;simp at e2;have:=bF e1;omega)⟩
    obtain rfl:i=ls.length:=by omega
    rw [jl] at hb;rcases hb.end with ⟨rfl,mB⟩|⟨k,pp,rr,l,rfl,dz,fO,mf,im⟩
    ·have ot:(aY (dA ls)).take t=(aY (dA ls)).take most:=by
      have hle:(aY (dA ls)).length<=t:=by
       rcases Nat.lt_or_ge t (aY (dA ls)).length with e|e
       ·obtain ⟨x,hx⟩:=aN e;rw [mc,mB] at hx;cases hx
       exact e
      rw [List.take_of_length_le hle,List.take_of_length_le (by omega)]
     (conv=>whnf);skip;refine ⟨fun bF=>?_,fun bF=>?_⟩<;>simp at bF
     have gH:eT ls most=((aY (dA ls)).take t).map (fE ls):=by unfold eT;rw [ot]
     (conv=>whnf);skip;rw [gH];exact bD.le (by decide)
    have lI:=im;rw [<- mc] at lI;have xV:k<ls.length:=(List.getElem?_eq_some_iff.1 dz).1;rw [<- jl] at fO;have dX:=pZ k _ fO;(conv=>whnf);skip;refine ⟨fun bF=>absurd (of_decide_eq_true bF) (by omega),fun bF=>?_⟩;(conv=>whnf);repeat ((first|(refine iK (i:=k) (by omega) ?_)|(refine ft iw (.head _) (by omega) fO ?_)|(refine ix (enc:=db) (i:=0) rfl ?_));conv=>whnf)
    have ch:((aY (dA ls)).take (t+1)).map (fE ls)=((aY (dA ls)).take t).map (fE ls)++[pp]:=by rw [dg lI,List.map_append];refine congrArg (_++[·]) ?_;show (ls.getD k []).getD (cX (dA ls) t k) ⟨[],0⟩=pp;rw [show ls.getD k []=l by rw [List.getD_eq_getElem?_getD,dz];rfl,List.getD_eq_getElem?_getD];have:=congrArg (fun z=>z[0]?) mf;simp only [List.getElem?_drop,Nat.add_zero,List.getElem?_cons_zero] at this;rw [this];rfl
    have pj:cur.set k rr=eI ls (cX (dA ls) (t+1)):=by rw [tu lI,jl,<- xT dz,mf];rfl
    have HP:t<(aY (dA ls)).length:=(List.getElem?_eq_some_iff.1 lI).1;refine ⟨Nat.le_of_ble_eq_true rfl,fun q2=>?_⟩;(conv=>whnf);repeat ((first|(refine iK (i:=k) (by omega) ?_)|(refine ft iw (by first|exact .head _|exact .tail _ (.head _)) (by omega) fO ?_)|(refine ⟨af ⟨by decide,by rw [List.length_map,List.length_cons];omega,Int.le_refl _⟩,?_⟩));conv=>whnf)
    (conv=>whnf);have uJ:List.drop (Int.toNat 1) (List.take ((((pp::rr).map db).length:Int)).toNat ((pp::rr).map db))=rr.map db:=by rw [Int.toNat_natCast,List.take_length];rfl
    refine rM (enc:=fV) (L:=cur) rr (by decide) iw (by rw [bw];exact xV) (by omega) (by unfold fV;rw [<- uJ];rfl) (by first|exact .here _|exact .there (.here _)) ?_;(conv=>whnf);skip;exact ⟨_,_,ar.perm (List.Perm.swap _ _ _),_,(by omega),t+1,_,[(q2,.tok)],rfl,(by rw [pj]),rfl,by omega,by omega,.inr ⟨q2,(by rw [ch,ph];rfl),rfl⟩⟩
   have ot:(aY (dA ls)).take t=(aY (dA ls)).take most:=(by rw [show t=most by omega]);have gH:eT ls most=((aY (dA ls)).take t).map (fE ls):=by unfold eT;rw [ot]
   (conv=>whnf);skip;rw [gH];exact bD.le (by decide)
  skip;skip;(conv=>whnf);skip;refine ⟨fun hz=>?_,fun hz=>?_⟩<;>simp at hz
  ·have HL:t<most:=(by omega);refine cy rfl mixed [0,1,5,6,7] [] (fun m r h=>∃ (i:Nat) (bi:Int),r=[(0,[],.aR b 0 ls.length 1),(1,[],.int .i64 most),(5,[],.sl 1 (some q) ((((aY (dA ls)).take t).map (fE ls)).map db)),(6,[],.int .i64 bi),(7,[],.int .i64 i)]/\h=(b,.vec (cur.map fV).flatten)::[(q,.tok)]/\m=ls.length - i/\i<=ls.length/\eJ cur i bi) ?_ ?_
   ·(conv=>whnf);exact ⟨_,_,ar.refl _ _,_,0,-1,rfl,rfl,rfl,by omega,.inl ⟨rfl,fun j l hj=>by omega⟩⟩
   rintro m r h' ⟨i,bi,rfl,rfl,rfl,hi,hb⟩;(conv=>whnf);refine ⟨fun eX=>?_,fun eX=>?_⟩<;>simp at eX
   ·obtain ⟨li,dK⟩:=aN (l:=cur) (i:=i) (by omega);have HM:=pZ i li dK;have vY:-1<=bi/\bi<ls.length:=hb.lt (by omega);obtain ⟨lb,dC⟩:=aN (l:=cur) (i:=bi.toNat) (by omega);have HO:=pZ _ lb dC;have wG:=Pt (li.getD 0 ⟨[],0⟩) (lb.getD 0 ⟨[],0⟩) (Fm (Fo i li dK)) (Fm (Fo _ lb dC));(conv=>whnf);repeat ((first|(refine iK (i:=i) (by omega) ?_)|(refine ft iw (.head _) (by omega) dK ?_)|(refine qQ (enc:=db) (⟨[],0⟩:ei) ?_ ?_;(focus (conv=>whnf;skip));(focus (intro h1 h2;simp only [decide_eq_true_eq,decide_eq_false_iff_not,List.length_map] at h1 h2;first|(show 0<=(0:Int)/\(0:Int)<(li.length:Int);omega)|(show 0<=(0:Int)/\(0:Int)<(lb.length:Int);have:=hb.full (by omega) dC;omega))))|(refine xI ?_ ?_;(focus (conv=>whnf;skip));(focus (intro h1 h2;simp only [decide_eq_true_eq,decide_eq_false_iff_not,List.length_map] at h1 h2;show 0<=bi/\bi<ls.length;omega)))|(refine ft iw (.head _) (by omega) dC ?_)|refine aX (wG) ?_|refine And.intro (by show aJ (aH Tryz.f109 _) _=true;decide +kernel) ?_);conv=>whnf)
    refine ⟨fun bF=>?_,fun bF=>?_⟩
    ·(conv=>whnf);repeat (refine ⟨af ⟨by omega,by omega⟩,?_⟩;conv=>whnf)
     (conv=>whnf);skip;exact ⟨_,_,ar.refl _ _,_,(by omega),i+1,i,rfl,rfl,rfl,by omega,(hb.step dK dC).1 (by simp at bF;omega) (by simp at bF;simpa using bF.2)⟩
    (conv=>whnf);repeat (refine ⟨af ⟨by omega,by omega⟩,?_⟩;conv=>whnf)
    (conv=>whnf);skip;exact ⟨_,_,ar.refl _ _,_,(by omega),i+1,bi,rfl,rfl,rfl,by omega,(hb.step dK dC).2 (by rintro ⟨e1,e2⟩;simp at bF;simp at e2;have:=bF e1;omega)⟩
   obtain rfl:i=ls.length:=by omega
   rw [jl] at hb;rcases hb.end with ⟨rfl,mB⟩|⟨k,pp,rr,l,rfl,dz,fO,mf,im⟩
   ·have ot:(aY (dA ls)).take t=(aY (dA ls)).take most:=by
     have hle:(aY (dA ls)).length<=t:=by
      rcases Nat.lt_or_ge t (aY (dA ls)).length with e|e
      ·obtain ⟨x,hx⟩:=aN e;rw [mc,mB] at hx;cases hx
      exact e
     rw [List.take_of_length_le hle,List.take_of_length_le (by omega)]
    (conv=>whnf);skip;refine ⟨fun bF=>?_,fun bF=>?_⟩<;>simp at bF
    have gH:eT ls most=((aY (dA ls)).take t).map (fE ls):=by unfold eT;rw [ot]
    (conv=>whnf);skip;rw [gH];exact bD.le (by decide)
   have lI:=im;rw [<- mc] at lI;have xV:k<ls.length:=(List.getElem?_eq_some_iff.1 dz).1;rw [<- jl] at fO;have dX:=pZ k _ fO;(conv=>whnf);skip;refine ⟨fun bF=>absurd (of_decide_eq_true bF) (by omega),fun bF=>?_⟩;(conv=>whnf);repeat ((first|(refine iK (i:=k) (by omega) ?_)|(refine ft iw (.head _) (by omega) fO ?_)|(refine ix (enc:=db) (i:=0) rfl ?_));conv=>whnf)
   have ch:((aY (dA ls)).take (t+1)).map (fE ls)=((aY (dA ls)).take t).map (fE ls)++[pp]:=by rw [dg lI,List.map_append];refine congrArg (_++[·]) ?_;show (ls.getD k []).getD (cX (dA ls) t k) ⟨[],0⟩=pp;rw [show ls.getD k []=l by rw [List.getD_eq_getElem?_getD,dz];rfl,List.getD_eq_getElem?_getD];have:=congrArg (fun z=>z[0]?) mf;simp only [List.getElem?_drop,Nat.add_zero,List.getElem?_cons_zero] at this;rw [this];rfl
   have pj:cur.set k rr=eI ls (cX (dA ls) (t+1)):=by rw [tu lI,jl,<- xT dz,mf];rfl
   have HP:t<(aY (dA ls)).length:=(List.getElem?_eq_some_iff.1 lI).1;refine ⟨(by rw [List.length_append,jb];simp;unfold aV;omega),fun q2=>⟨_,.there (.here _),?_⟩⟩;(conv=>whnf);repeat ((first|(refine iK (i:=k) (by omega) ?_)|(refine ft iw (by first|exact .head _|exact .tail _ (.head _)) (by omega) fO ?_)|(refine ⟨af ⟨by decide,by rw [List.length_map,List.length_cons];omega,Int.le_refl _⟩,?_⟩));conv=>whnf)
   (conv=>whnf);have uJ:List.drop (Int.toNat 1) (List.take ((((pp::rr).map db).length:Int)).toNat ((pp::rr).map db))=rr.map db:=by rw [Int.toNat_natCast,List.take_length];rfl
   refine rM (enc:=fV) (L:=cur) rr (by decide) iw (by rw [bw];exact xV) (by omega) (by unfold fV;rw [<- uJ];rfl) (by first|exact .here _|exact .there (.here _)) ?_;(conv=>whnf);skip;exact ⟨_,_,ar.refl _ _,_,(by omega),t+1,_,[(q2,.tok)],rfl,(by rw [pj]),rfl,by omega,by omega,.inr ⟨q2,(by rw [ch,List.map_append];rfl),rfl⟩⟩
  have ot:(aY (dA ls)).take t=(aY (dA ls)).take most:=(by rw [show t=most by omega]);have gH:eT ls most=((aY (dA ls)).take t).map (fE ls):=by unfold eT;rw [ot]
  (conv=>whnf);skip;rw [gH];exact bD.le (by decide)
 intro v h1 hv;exact ⟨.sl 1 none ((eT ls most).map db),[],⟨rfl,rfl⟩,hv,fun k o hm=>(by cases hm),fun _=>(by simp [keys])⟩
end Go.Abs.Wall.Spl
namespace Go.Abs.Wall.Spl
open Go Go.Abs Go.Proofs Go.Abs.Wall
open Go.Abs.Wall.Lst hiding al gL lq jg gk da lr kd lu lx ly lz lA ef lB cg lC oY qT bW jE og mD oZ getAll cp xS pY db fV iw cA fE eI pg qV xT BJ eJ eJ.lt eJ.full eJ.step eJ.end eT El
end Go.Abs.Wall.Spl
namespace Go.Abs.Wall.Spl
open Go Go.Abs Go.Proofs Go.Abs.Wall
open Go.Abs.Wall.Lst hiding al gL lq jg gk da lr kd lu lx ly lz lA ef lB cg lC pe
def wH (E:Env):br->List Mv->Prop
 | x,[]=>(eU E x).2=true
 | x,m::p=>m∈dP E x/\wH E m.to p
def wI (E:Env):br->List Mv->Int
 | x,[]=>(eU E x).1*16
 | x,m::p=>wI E m.to p+(m.cost*16+1)
theorem Fp {E:Env} (hE:gO E):∀ (d:Nat) (x:br),gX E x->(12 - x.n).toNat=d->∀ (ρ:Nat) w,(df E x)[ρ]?=some w->wH E x (kH E x w)/\wI E x (kH E x w)=w.cost:=by
 intro d;induction d with
 | zero=>
   intro x hx hd ρ w hw;have hn:=hx.n;by_cases he:w.aP=0
   ·obtain ⟨h1,h2,h3⟩:=Cg hE hx hw he;rw [h1];exact ⟨h3,h2.symm⟩
   obtain ⟨m,w',hm,bS,_⟩:=pe hE hx hw he;have:=bS.next;have:=bS.to.n;omega
 | succ d ih=>
   intro x hx hd ρ w hw;have hn:=hx.n;by_cases he:w.aP=0
   ·obtain ⟨h1,h2,h3⟩:=Cg hE hx hw he;rw [h1];exact ⟨h3,h2.symm⟩
   obtain ⟨m,w',hm,bS,nu,hp,hc,_⟩:=pe hE hx hw he;have bZ:=bS.next;obtain ⟨h1,h2⟩:=ih m.to bS.to (by omega) _ w' nu;rw [hp];refine ⟨⟨List.mem_of_getElem? hm,h1⟩,?_⟩;show wI E m.to (kH E m.to w')+_=_;rw [h2,hc]
theorem Pu {E:Env} (hE:gO E):∀ (p:List Mv) (x:br),gX E x->wH E x p->∃ (ρ:Nat) (w:Wy),(df E x)[ρ]?=some w/\kH E x w=p
 | [],x,hx,hp=>by
   have hp:(eU E x).2=true:=hp;have hl:mM E x=[(eU E x).1*16]:=by unfold mM;rw [if_pos hp]
   have:=Ib (cls:=ez E x) (k:=0) (r:=0) (uW E x) (by rw [hl];rfl);obtain ⟨ρ,hρ⟩:=List.mem_iff_getElem?.1 this;rw [<- sr hE hx] at hρ;exact ⟨ρ,_,hρ,(Cg hE hx hρ rfl).1⟩
 | m::p,x,hx,hp=>by
   obtain ⟨hm,hp⟩:=hp;have bS:=uV hE hx hm;obtain ⟨i,hi⟩:=List.mem_iff_getElem?.1 hm;obtain ⟨ρ',w',nu,gU⟩:=Pu hE p m.to bS.to hp;have:=Ib (cls:=ez E x) (k:=i+1) (r:=ρ') (c:=w'.cost+(m.cost*16+1)) (zN hi) (by rw [List.getElem?_map,nu];rfl);obtain ⟨ρ,hρ⟩:=List.mem_iff_getElem?.1 this;rw [<- sr hE hx] at hρ;obtain ⟨m2,w2,h1,h2,h3,h4,_⟩:=pe hE hx hρ (by simp);have h1:(dP E x)[i]?=some m2:=h1;rw [hi] at h1;cases h1
   have h3:(df E m.to)[ρ']?=some w2:=h3;rw [nu] at h3;cases h3
   exact ⟨ρ,_,hρ,by rw [h4,gU]⟩
theorem Fq {E:Env} (hE:gO E):∀ (p:List Mv) (x:br),gX E x->wH E x p->(p.length:Int)+x.n<=12
 | [],x,hx,hp=>by have:=hx.n;simp;omega
 | m::p,x,hx,hp=>by have bS:=uV hE hx hp.1;have:=Fq hE p m.to bS.to hp.2;have:=bS.next;rw [List.length_cons];omega
end Go.Abs.Wall.Spl
namespace Go.Abs.Wall.Spl
open Go Go.Abs Go.Proofs Go.Abs.Wall
end Go.Abs.Wall.Spl
