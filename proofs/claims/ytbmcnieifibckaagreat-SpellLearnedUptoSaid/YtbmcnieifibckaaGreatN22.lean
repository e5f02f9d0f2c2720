/- What is proved: small laws for the walks of this seat, and contracts of its functions. No condition but those each theorem names. -/
import Derived.Test.YtbmcnieifibckaaGreatN21
import Derived.Test.YtbmcnieifibckaaGreatN15
set_option maxRecDepth 100000
set_option maxHeartbeats 2000000
set_option linter.unusedVariables false
set_option linter.unusedSimpArgs false
namespace Go.Abs.Wall.Spl
open Go Go.Abs Go.Proofs Go.Abs.Wall
open Go.Abs.Wall.Lst hiding aq ic lH jx gE dn lI kH lJ lK lL lM lN eA lO ch lP pC rI bY jW oN mV pD getAll
def vL (x:bJ):AV:=.agg (kL x)
def Kt (k:Nat):AV:=.bj k 0
def ew (es:gb):Ob:=.map (pN vL Kt es)
theorem Ku (a b:bJ):jK Tryz.prog 114 (vL a) (vL b)=some (decide (a=b)):=by obtain ⟨a1,a2,a3,a4⟩:=a;obtain ⟨b1,b2,b3,b4⟩:=b;have h:jK Tryz.prog 114 (vL ⟨a1,a2,a3,a4⟩) (vL ⟨b1,b2,b3,b4⟩)=some (decide (a1=b1)&&(decide (a2=b2)&&(decide (a3=b3)&&(decide (a4=b4)&&true)))):=(by first|rfl|kernel_rfl);rw [h];congr 1;rw [Bool.eq_iff_iff];simp
theorem Qi:qt Tryz.prog 114=true:=by decide +kernel
theorem Kv {es:gb} {x:bJ} {b:Nat} {h:af} {g:G} {K:AV->Prop} (hm:(b,ew es)∈h)
  (hk:K (su true (((dM x es).map Kt).getD .kA) (dM x es).isSome)) :
  ∃ es v f,(b,Ob.map es)∈h/\gP g (ss Tryz.prog 114 (vL x)/\ya Tryz.prog 114 (vL x) es .kA=some (v,f))/\K (su true v f):=
 ⟨_,_,_,hm,ah ⟨Kw Ku Qi x,Qj Ku x es _⟩,hk⟩
def pO:List AV:=[.int .i64 0,.int .i64 0,.int .i64 0,.int .i64 0]
def bY (E:Env) (x:bJ) (aM:Nat):AV:=match (eY E x)[aM]? with
 | some w=>.aH [.agg (aq w),.bool true]
 | none=>.aH [.agg pO,.bool false]
def jW (E:Env) (x:bJ):Prop:=∀ (nb:Nat) (cv:AV) (es:gb) (c:Nat) (hp:af) (aM:Nat),eb E c x.n es hp->aM<=64 ->
 aB Tryz.prog 105 [.au (lj E (.omap nb) cv),.agg (kL x),.int .i64 aM] ((nb,ew es)::hp)
  (fun v h'=>v=bY E x aM/\∃ ext aY,(∀ p∈ext,x.n<=p.1.n)/\eb E c x.n (es++ext) aY/\(dM x (es++ext)).isSome=true/\h'=(nb,ew (es++ext))::aY)
def GB (E:Env) (x:bJ):Prop:=∀ (nb:Nat) (cv:AV) (es:gb) (c:Nat) (hp:af),eb E c x.n es hp ->
 aB Tryz.prog 106 [.au (lj E (.omap nb) cv),.agg (kL x)] ((nb,ew es)::hp)
  (fun v h'=>∃ k ext aY,v=.bj k 0/\dM x (es++ext)=some k/\(∀ p∈ext,x.n<=p.1.n)/\eb E c x.n (es++ext) aY/\h'=(nb,ew (es++ext))::aY)
theorem Qk {A B D:af} {m:Nat × Ob}:(m::D++(A++B)).Perm (A++m::(B++D)):=by refine List.Perm.trans ?_ List.perm_middle.symm;refine List.Perm.cons _ ?_;rw [<- List.append_assoc];exact List.perm_append_comm
theorem _root_.Go.Abs.Wall.Spl.eb.more {E:Env}:∀ {c:Nat} {d:Int} {es:gb} {hp:af} {ext:gb},eb E c d es hp->(∀ p∈ext,p.1.n<d)->eb E c d (es++ext) hp
 | _,_,_,_,ext,.done h,_=>.done h
 | _,_,_,_,ext,.step hA hB,he=>.step (hA.more fun p hp=>by have:=he p hp;omega) (hB.more fun p hp=>by have:=he p hp;omega)
theorem oN {E:Env} {y:bJ} (IH:jW E y) {nb:Nat} {cv:AV} {es:gb} {c:Nat} {hB:af} {aM:Nat} (hn:eb E c y.n es hB) (hr:aM<=64) (A B:af) :
  aB Tryz.prog 105 [.au (lj E (.omap nb) cv),.agg (kL y),.int .i64 aM] (A++(nb,ew es)::(B++hB))
   (fun v H'=>v=bY E y aM/\∃ ext xh,(∀ p∈ext,y.n<=p.1.n)/\eb E c y.n (es++ext) xh/\H'=A++(nb,ew (es++ext))::(B++xh)):=by
 refine aB.re (IH nb cv es c hB aM hn hr) (h2:=A++B) Qk ?_;rintro v h1 ⟨hv,ext,aY,he,jz,_,rfl⟩;exact ⟨_,Qk,hv,ext,aY,he,jz,rfl⟩
theorem mV {x:Wy} {Q:List Wy} (hs:Q.Pairwise dm) {nk:Nat} {mv fv:AV} {due:Bool} {ov:AV} {oh:af} (ho:eA Q ov oh) (hl:Q.length<=65536) (A B C:af) :
  aB Tryz.prog 164 [.bj nk 2,.agg (aq x)] (A++(nk,.vec (ch mv fv ov due))::(B++(oh++C)))
   (fun v H'=>v=.aH []/\∃ iM iN,eA (iK x Q) iM iN/\H'=A++(nk,.vec (ch mv fv iM due))::(B++(iN++C))):=by
 have key:∀ (o:Nat × Ob) (oh:af),(o::oh++(A++(B++C))).Perm (A++o::(B++(oh++C))):=by intro o oh;refine List.Perm.trans ?_ List.perm_middle.symm;exact List.Perm.cons _ OJ
 refine aB.re (lP x Q hs nk mv fv due ov oh ho hl) (key _ _) ?_;rintro v h3 ⟨rfl,iM,iN,bH,rfl⟩;exact ⟨_,key _ _,rfl,iM,iN,bH,rfl⟩
def c106:az:=⟨[0,1,3,4,5,6,7,8,9,10,11,12,13,23,43,54,55,56,57,68],[30],[11,12],[],[(1,[0,1,2,3,4,5,6,7,8,9,10],[]),(5,[0,1,2,3,4,5,6],[]),(14,[0,1,2,3,4,5,6,7,8,9,10,11,12,13,14,15,16],[])],[85]⟩
theorem Ql (E:Env) (hE:jE E) (x:bJ) (hx:jF E x) (IH:∀ y,jF E y->y.n=x.n+1->jW E y):GB E x:=by
 intro nb cv es c hp hN;have Km:=hx.n;cases dI:dM x es with
 | some k=>
   refine aB.post (R:=fun v h'=>v=.bj k 0/\h'=(nb,ew es)::hp) ?_ ?_
   ·refine aG (F:=Tryz.f106) c106 rfl rfl rfl mixed rfl fun X=>?_;(conv=>whnf);repeat ((first|(refine Kv (.head _) ?_)|refine And.intro (by show aP (aN Tryz.f106 _) _=true;decide +kernel) ?_);conv=>whnf)
    rw [dI];refine cT rfl ?_;(conv=>whnf);skip;exact ⟨rfl,rfl⟩
   rintro v h1 ⟨rfl,rfl⟩;exact ⟨_,_,⟨k,[],hp,rfl,by rw [List.append_nil];exact dI,by simp,by rw [List.append_nil];exact hN,by rw [List.append_nil]⟩,ag.refl _,fun _ _ h=>h,fun h=>h⟩
 | none=>
   cases hN with
   | done hd=>omega
   | step hA hB=>
   rename_i c nV xi;have cG:=fun m (hm:m∈fB E x)=>AS hE hx hm;have gQ:=Qf (x:=x) hE;have dh:=Kq hE x;have uA:=XJ E (.omap nb) cv x hE hx;have XL:=XE E (.omap nb) cv x hE;refine aB.post (R:=fun v h'=>∃ k ext aY,v=.bj k 0/\dM x (es++ext)=some k/\(∀ p∈ext,x.n<=p.1.n)/\eb E (c+1) x.n (es++ext) aY/\h'.Perm ((nb,ew (es++ext))::aY)) ?_ ?_
   ·refine aG (F:=Tryz.f106) c106 rfl rfl rfl mixed rfl fun X=>?_;(conv=>whnf);repeat ((first|(refine Kv (.head _) ?_)|refine And.intro (by show aP (aN Tryz.f106 _) _=true;decide +kernel) ?_);conv=>whnf)
    rw [dI];refine cF rfl ?_;(conv=>whnf);repeat ((first|refine ae.k0 (uA) ?_|(intro (nk:Nat))|(refine Qm (ek:=vL) (ev:=Kt) (k:=x) (v:=nk) Ku Qi (.there (.here _)) ?_)|refine ae.k0 (XL) ?_|refine And.intro (by show aP (aN Tryz.f106 _) _=true;decide +kernel) ?_);conv=>whnf)
    rw [Qh dI];have W4:dM x (es++[(x,nk)])=some nk:=by rw [Gz,dI];simp [dM]
    have GC:eb E c (x.n+1) (es++[(x,nk)]) xi:=hB.more (fun p hp=>by rw [List.mem_singleton] at hp;rw [hp];show x.n<x.n+1;omega);refine ⟨fun hq=>?_,fun hq=>?_⟩
    ·have gD:tg E x=[(gv E x).1*16]:=by unfold tg;rw [if_pos hq]
     have th:=mV (x:=⟨(gv E x).1*16,0,0⟩) (Q:=[]) .nil (nk:=nk) (mv:=iW E x) (fv:=.aT) (due:=false) (ov:=.aT) (oh:=[]) (.inl ⟨rfl,rfl,rfl⟩) (by decide) [] [(nb,ew (es++[(x,nk)]))] (nV++xi)
     rw [show aq ⟨(gv E x).1*16,0,0⟩=[.int .i64 (gv E x).1,.int .i64 0,.int .i64 (-1),.int .i64 0] by
      unfold aq;rw [show (gv E x).1*16 / 16=(gv E x).1 by omega,show (gv E x).1*16 % 16=0 by omega];rfl] at th
     have sR:=FM (IZ (ga E x)) (AW E x) (c:=(gv E x).1*16) (by rw [gD];rfl);(conv=>whnf);repeat ((refine aB.mono ?_ th);conv=>whnf)
     rintro v h' ⟨rfl,AA,AB,wT,rfl⟩;obtain ⟨Q0,Qn⟩:∃ Q0,Q0=iK ⟨(gv E x).1*16,0,0⟩ []:=⟨_,rfl⟩;have OL:Q0.length<=1:=by rw [Qn,wM];exact Nat.le_refl _
     rw [<- Qn] at sR wT;(conv=>whnf);repeat (refine ⟨_,_,.head _,rfl,?_⟩;conv=>whnf)
     refine bW rfl mixed [0,7,54,55,56] [] (fun m r h=>∃ (i:Nat) (Q:List Wy) (ov:AV) (oh:af) (ext:gb) (hC:af),r=[(0,[],.au (lj E (.omap nb) cv)),(7,[],.bj nk 0),(54,[],iW E x),(55,[],.int .i64 ((fB E x).map vJ).length),(56,[],.int .i64 i)]/\h=(nk,.vec (ch (iW E x) .aT ov false))::(nb,ew (es++(x,nk)::ext))::(oh++(nV++hC))/\m=(fB E x).length - i/\i<=(fB E x).length/\uf (ga E x) (i+1) Q/\eA Q ov oh/\Q.length<=i+1/\(∀ p∈ext,x.n+1<=p.1.n)/\eb E c (x.n+1) (es++(x,nk)::ext) hC) ?_ ?_
     ·conv=>whnf
      first
       | exact ⟨_,_,ao.refl _ _,_,0,Q0,AA,AB,[],xi,rfl,rfl,rfl,by omega,sR,wT,by omega,(fun p hp=>by cases hp),GC⟩
       | exact ⟨_,_,ao.refl _ _,_,0,[],.aT,[],[],xi,rfl,rfl,rfl,by omega,sR,wT,by omega,(fun p hp=>by cases hp),GC⟩
     rintro m r h' ⟨i,Q,ov,oh,ext,hC,rfl,rfl,rfl,hi,pP,ho,hQ,fO,hN⟩;(conv=>whnf);refine ⟨fun aD=>?_,fun aD=>?_⟩<;>simp at aD
     ·obtain ⟨m,hm⟩:=aL aD;have pQ:=cG m (List.mem_of_getElem? hm);have cp:=pQ.next;have Kr:=pQ.cost;have sQ:=oN (IH m.to pQ.to cp) (nb:=nb) (cv:=cv) (es:=es++(x,nk)::ext) (c:=c) (hB:=hC) (aM:=0) (by rw [cp];exact hN) (by decide) [(nk,.vec (ch (iW E x) .aT ov false))] (oh++nV);simp only [List.append_assoc] at sQ;(conv=>whnf);repeat ((first|refine ix (by assumption) ?_|(intro (b9:Nat))|(refine aB.mono ?_ sQ)|refine ⟨_,_,bo.here _,⟨Nat.le_of_ble_eq_true rfl,rfl⟩,?_⟩);conv=>whnf)
      rintro v h' ⟨rfl,ik,vM,te,iA,rfl⟩;rw [cp] at iA;have ti:es++(x,nk)::(ext++ik)=es++(x,nk)::ext++ik:=by rw [List.append_assoc];rfl
      have xj:∀ p∈ext++ik,x.n+1<=p.1.n:=by
       intro p hp;rcases List.mem_append.1 hp with h|h
       ·exact fO p h
       have:=te p h;omega
      have bz:=Dm hm;cases hw:(eY E m.to)[0]? with
      | none=>
        have dH:bY E m.to 0=.aH [.agg pO,.bool false]:=by unfold bY;rw [hw]
        have zg:=FL pP bz (by rw [List.getElem?_map,hw];rfl);rw [dH];(conv=>whnf);repeat ((first|refine ⟨_,_,bo.here _,⟨Nat.le_of_ble_eq_true rfl,rfl⟩,?_⟩|intro (nb:Nat));conv=>whnf)
        refine cF rfl ?_;(conv=>whnf);repeat (refine ⟨ah ⟨by omega,by omega⟩,?_⟩;conv=>whnf)
        refine ⟨_,_,ao.refl _ _,_,(by omega),i+1,Q,ov,oh,ext++ik,vM,rfl,?_,rfl,by omega,zg,ho,by omega,xj,by rw [ti];simpa using iA⟩;rw [ti];simp
      | some w=>
        have dH:bY E m.to 0=.aH [.agg (aq w),.bool true]:=by unfold bY;rw [hw]
        have CI:=Gy hE _ m.to pQ.to rfl w (List.mem_of_getElem? hw);have hd:(12 - m.to.n).toNat<=11:=(by omega);have zg:=FM pP bz (c:=w.cost+(m.cost*16+1)) (by rw [List.getElem?_map,hw];rfl);have th:=mV (x:=⟨w.cost+(m.cost*16+1),i+1,0⟩) pP.1 (nk:=nk) (mv:=iW E x) (fv:=.aT) (due:=false) ho (by omega) [] [(nb,ew (es++(x,nk)::(ext++ik)))] (nV++vM)
        rw [show aq ⟨w.cost+(m.cost*16+1),i+1,0⟩=[.int .i64 (w.cost / 16+m.cost),.int .i64 (w.cost % 16+1),.int .i64 i,.int .i64 0] by
         unfold aq;rw [show (w.cost+(m.cost*16+1)) / 16=w.cost / 16+m.cost by omega,show (w.cost+(m.cost*16+1)) % 16=w.cost % 16+1 by omega,show ((i+1:Nat):Int) - 1=(i:Int) by omega];rfl] at th
        rw [dH];(conv=>whnf);repeat ((first|refine ⟨_,_,bo.here _,⟨Nat.le_of_ble_eq_true rfl,rfl⟩,?_⟩|intro (nb:Nat));conv=>whnf)
        refine cT rfl ?_;(conv=>whnf);repeat ((first|refine ⟨ah ⟨by omega,by omega⟩,?_⟩|(refine aB.mono ?_ th)|refine And.intro (by show aP (aN Tryz.f106 _) _=true;decide +kernel) ?_);conv=>whnf)
        rintro v h' ⟨rfl,Kx,Ky,cy,rfl⟩;(conv=>whnf);repeat (refine ⟨ah ⟨by omega,by omega⟩,?_⟩;conv=>whnf)
        refine ⟨_,_,ao.refl _ _,_,(by omega),i+1,_,Kx,Ky,ext++ik,vM,rfl,?_,rfl,by omega,zg,cy,by rw [wM];omega,xj,by rw [ti];simpa using iA⟩;rw [ti];simp
     have de:i=(fB E x).length:=(by omega);subst de;rw [<- AU] at pP;have bf:=Ja pP;have cp:AY E x nk ((nk,.vec (ch (iW E x) .aT ov false))::oh):=⟨0,false,Q,.aT,[],ov,oh,⟨bf,by simp;omega,by omega⟩,.inl ⟨rfl,rfl,rfl⟩,ho,rfl⟩;(conv=>whnf);skip;refine ⟨nk,(x,nk)::ext,(nV++((nk,.vec (ch (iW E x) .aT ov false))::oh))++hC,rfl,?_,?_,?_,?_⟩
     ·rw [Gz,dI];simp [dM]
     ·intro p hp;rcases List.mem_cons.1 hp with h|h
      ·rw [h];exact Int.le_refl _
      have:=fO p h;omega
     ·refine .step ?_ hN;have h1:=(hA.snoc (k:=nk) rfl cp).more (ext:=ext) (fun p hp=>by have:=fO p hp;omega);rw [List.append_assoc] at h1;exact h1
     refine List.Perm.trans (List.Perm.swap _ _ _) (List.Perm.cons _ ?_);have h1:((nk,Ob.vec (ch (iW E x) .aT ov false))::oh++(nV++hC)).Perm (nV++((nk,Ob.vec (ch (iW E x) .aT ov false))::oh++hC)):=List.perm_append_comm_assoc _ _ _;rw [<- List.append_assoc nV] at h1;exact h1
    have gD:tg E x=[]:=by unfold tg;rw [if_neg (by rw [hq];decide)]
    have sR:=FL (IZ (ga E x)) (AW E x) (by rw [gD];rfl);have wT:eA [] .aT []:=.inl ⟨rfl,rfl,rfl⟩;have OL:([]:List Wy).length<=1:=(by simp);(conv=>whnf);repeat (refine ⟨_,_,.head _,rfl,?_⟩;conv=>whnf)
    refine bW rfl mixed [0,7,54,55,56] [] (fun m r h=>∃ (i:Nat) (Q:List Wy) (ov:AV) (oh:af) (ext:gb) (hC:af),r=[(0,[],.au (lj E (.omap nb) cv)),(7,[],.bj nk 0),(54,[],iW E x),(55,[],.int .i64 ((fB E x).map vJ).length),(56,[],.int .i64 i)]/\h=(nk,.vec (ch (iW E x) .aT ov false))::(nb,ew (es++(x,nk)::ext))::(oh++(nV++hC))/\m=(fB E x).length - i/\i<=(fB E x).length/\uf (ga E x) (i+1) Q/\eA Q ov oh/\Q.length<=i+1/\(∀ p∈ext,x.n+1<=p.1.n)/\eb E c (x.n+1) (es++(x,nk)::ext) hC) ?_ ?_
    ·conv=>whnf
     first
      | exact ⟨_,_,ao.refl _ _,_,0,Q0,AA,AB,[],xi,rfl,rfl,rfl,by omega,sR,wT,by omega,(fun p hp=>by cases hp),GC⟩
      | exact ⟨_,_,ao.refl _ _,_,0,[],.aT,[],[],xi,rfl,rfl,rfl,by omega,sR,wT,by omega,(fun p hp=>by cases hp),GC⟩
    rintro m r h' ⟨i,Q,ov,oh,ext,hC,rfl,rfl,rfl,hi,pP,ho,hQ,fO,hN⟩;(conv=>whnf);refine ⟨fun aD=>?_,fun aD=>?_⟩<;>simp at aD
    ·obtain ⟨m,hm⟩:=aL aD;have pQ:=cG m (List.mem_of_getElem? hm);have cp:=pQ.next;have Kr:=pQ.cost;have sQ:=oN (IH m.to pQ.to cp) (nb:=nb) (cv:=cv) (es:=es++(x,nk)::ext) (c:=c) (hB:=hC) (aM:=0) (by rw [cp];exact hN) (by decide) [(nk,.vec (ch (iW E x) .aT ov false))] (oh++nV);simp only [List.append_assoc] at sQ;(conv=>whnf);repeat ((first|refine ix (by assumption) ?_|(intro (b9:Nat))|(refine aB.mono ?_ sQ)|refine ⟨_,_,bo.here _,⟨Nat.le_of_ble_eq_true rfl,rfl⟩,?_⟩);conv=>whnf)
     rintro v h' ⟨rfl,ik,vM,te,iA,rfl⟩;rw [cp] at iA;have ti:es++(x,nk)::(ext++ik)=es++(x,nk)::ext++ik:=by rw [List.append_assoc];rfl
     have xj:∀ p∈ext++ik,x.n+1<=p.1.n:=by
      intro p hp;rcases List.mem_append.1 hp with h|h
      ·exact fO p h
      have:=te p h;omega
     have bz:=Dm hm;cases hw:(eY E m.to)[0]? with
     | none=>
       have dH:bY E m.to 0=.aH [.agg pO,.bool false]:=by unfold bY;rw [hw]
       have zg:=FL pP bz (by rw [List.getElem?_map,hw];rfl);rw [dH];(conv=>whnf);repeat ((first|refine ⟨_,_,bo.here _,⟨Nat.le_of_ble_eq_true rfl,rfl⟩,?_⟩|intro (nb:Nat));conv=>whnf)
       refine cF rfl ?_;(conv=>whnf);repeat (refine ⟨ah ⟨by omega,by omega⟩,?_⟩;conv=>whnf)
       refine ⟨_,_,ao.refl _ _,_,(by omega),i+1,Q,ov,oh,ext++ik,vM,rfl,?_,rfl,by omega,zg,ho,by omega,xj,by rw [ti];simpa using iA⟩;rw [ti];simp
     | some w=>
       have dH:bY E m.to 0=.aH [.agg (aq w),.bool true]:=by unfold bY;rw [hw]
       have CI:=Gy hE _ m.to pQ.to rfl w (List.mem_of_getElem? hw);have hd:(12 - m.to.n).toNat<=11:=(by omega);have zg:=FM pP bz (c:=w.cost+(m.cost*16+1)) (by rw [List.getElem?_map,hw];rfl);have th:=mV (x:=⟨w.cost+(m.cost*16+1),i+1,0⟩) pP.1 (nk:=nk) (mv:=iW E x) (fv:=.aT) (due:=false) ho (by omega) [] [(nb,ew (es++(x,nk)::(ext++ik)))] (nV++vM)
       rw [show aq ⟨w.cost+(m.cost*16+1),i+1,0⟩=[.int .i64 (w.cost / 16+m.cost),.int .i64 (w.cost % 16+1),.int .i64 i,.int .i64 0] by
        unfold aq;rw [show (w.cost+(m.cost*16+1)) / 16=w.cost / 16+m.cost by omega,show (w.cost+(m.cost*16+1)) % 16=w.cost % 16+1 by omega,show ((i+1:Nat):Int) - 1=(i:Int) by omega];rfl] at th
       rw [dH];(conv=>whnf);repeat ((first|refine ⟨_,_,bo.here _,⟨Nat.le_of_ble_eq_true rfl,rfl⟩,?_⟩|intro (nb:Nat));conv=>whnf)
       refine cT rfl ?_;(conv=>whnf);repeat ((first|refine ⟨ah ⟨by omega,by omega⟩,?_⟩|(refine aB.mono ?_ th)|refine And.intro (by show aP (aN Tryz.f106 _) _=true;decide +kernel) ?_);conv=>whnf)
       rintro v h' ⟨rfl,Kx,Ky,cy,rfl⟩;(conv=>whnf);repeat (refine ⟨ah ⟨by omega,by omega⟩,?_⟩;conv=>whnf)
       refine ⟨_,_,ao.refl _ _,_,(by omega),i+1,_,Kx,Ky,ext++ik,vM,rfl,?_,rfl,by omega,zg,cy,by rw [wM];omega,xj,by rw [ti];simpa using iA⟩;rw [ti];simp
    have de:i=(fB E x).length:=(by omega);subst de;rw [<- AU] at pP;have bf:=Ja pP;have cp:AY E x nk ((nk,.vec (ch (iW E x) .aT ov false))::oh):=⟨0,false,Q,.aT,[],ov,oh,⟨bf,by simp;omega,by omega⟩,.inl ⟨rfl,rfl,rfl⟩,ho,rfl⟩;(conv=>whnf);skip;refine ⟨nk,(x,nk)::ext,(nV++((nk,.vec (ch (iW E x) .aT ov false))::oh))++hC,rfl,?_,?_,?_,?_⟩
    ·rw [Gz,dI];simp [dM]
    ·intro p hp;rcases List.mem_cons.1 hp with h|h
     ·rw [h];exact Int.le_refl _
     have:=fO p h;omega
    ·refine .step ?_ hN;have h1:=(hA.snoc (k:=nk) rfl cp).more (ext:=ext) (fun p hp=>by have:=fO p hp;omega);rw [List.append_assoc] at h1;exact h1
    refine List.Perm.trans (List.Perm.swap _ _ _) (List.Perm.cons _ ?_);have h1:((nk,Ob.vec (ch (iW E x) .aT ov false))::oh++(nV++hC)).Perm (nV++((nk,Ob.vec (ch (iW E x) .aT ov false))::oh++hC)):=List.perm_append_comm_assoc _ _ _;rw [<- List.append_assoc nV] at h1;exact h1
   rintro v h1 ⟨k,ext,aY,rfl,h2,h3,h4,eT⟩;exact ⟨_,_,⟨k,ext,aY,rfl,h2,h3,h4,rfl⟩,ag.refl _,fun _ _ h=>eT.mem_iff.2 h,fun h=>by unfold keys at h ⊢;exact ((eT.map _).nodup_iff).1 h⟩
end Go.Abs.Wall.Spl
namespace Go.Abs.Wall.Spl
open Go Go.Abs Go.Proofs Go.Abs.Wall
open Go.Abs.Wall.Lst hiding aq ic lH jx gE dn lI kH lJ lK lL lM lN eA lO ch lP pC rI bY jW oN mV pD getAll
theorem XM {E:Env} {x:bJ} (HN:GB E x) {nb:Nat} {cv:AV} {es:gb} {c:Nat} {hB:af} (hn:eb E c x.n es hB) (A:af) :
  aB Tryz.prog 106 [.au (lj E (.omap nb) cv),.agg (kL x)] (A++(nb,ew es)::hB)
   (fun v H'=>∃ k ext aY,v=.bj k 0/\dM x (es++ext)=some k/\(∀ p∈ext,x.n<=p.1.n)/\eb E c x.n (es++ext) aY/\H'=A++(nb,ew (es++ext))::aY):=by
 have permA:∀ {m:Nat × Ob} {D:af},(m::D++A).Perm (A++m::D):=by intro m D;refine List.Perm.trans ?_ List.perm_middle.symm;exact List.Perm.cons _ List.perm_append_comm
 refine aB.re (HN nb cv es c hB hn) (h2:=A) permA ?_;rintro v h1 ⟨k,ext,aY,h2,h3,h4,h5,rfl⟩;exact ⟨_,permA,k,ext,aY,h2,h3,h4,h5,rfl⟩
theorem XN (a b:Int) (e r:Nat) (ha:0<=a) (hr:a % 16+1<16):aq ⟨a+(b*16+1),e,r⟩=[.int .i64 (a / 16+b),.int .i64 (a % 16+1),.int .i64 (e - 1),.int .i64 r]:=by unfold aq;rw [show (a+(b*16+1)) / 16=a / 16+b by omega,show (a+(b*16+1)) % 16=a % 16+1 by omega]
theorem XO {a b m:Nat × Ob} {X F O Y C:af}:(a::b::(X++(m::(F++O)++Y)++C)).Perm (a::b::m::(F++(O++(X++(Y++C))))):=by refine List.Perm.cons _ (List.Perm.cons _ ?_);have:=List.perm_append_comm_assoc X (m::(F++O)) (Y++C);simpa using this
def c105:az:=⟨[0,1,2,4,6,7,8,9,10,11,12,22,26,44,63,91],[],[9,10,11],[],[(5,[0,1,2,3,4,5,6,7,8,9,10,11,12,13],[9]),(7,[0,1,2,3,4,5,6,7,8,9],[10]),(10,[0,1,2,3,4,5,6,7,8,9,10,11,12,13,14,15,16,17,18,19,20],[]),(13,[0,1,2,3,4,5,6,7,8,9,10,11,12,13,14,15,16],[])],[60,84]⟩
set_option maxHeartbeats 8000000 in
theorem pD (E:Env) (hE:jE E) (x:bJ) (hx:jF E x) (HN:GB E x) (IH:∀ y,jF E y->y.n=x.n+1->jW E y):jW E x:=by
 intro tb cv es c hp aM hN hr;have Km:=hx.n;have mo:=Dl hE hx;have cG:=fun m (hm:m∈fB E x)=>AS hE hx hm;have gQ:=Qf (x:=x) hE;refine aB.post (R:=fun v h'=>v=bY E x aM/\∃ ext aY,(∀ p∈ext,x.n<=p.1.n)/\eb E c x.n (es++ext) aY/\(dM x (es++ext)).isSome=true/\∃ rb o,h'.Perm ((rb,o)::(tb,ew (es++ext))::aY)) ?_ ?_
 ·refine aB.mono (R:=fun (v:AV) (h':af)=>∃ pR,(∀ p∈pR,x.n<=p.1.n)/\v=bY E x aM/\∃ ext aY,(∀ p∈ext,x.n+1<=p.1.n)/\eb E c x.n (es++pR++ext) aY/\(dM x (es++pR++ext)).isSome=true/\∃ rb o,h'.Perm ((rb,o)::(tb,ew (es++pR++ext))::aY)) ?_ ?_
  ·rintro v h' ⟨pR,h0,hv,ext,aY,h1,h2,gW,rb,o,h3⟩;refine ⟨hv,pR++ext,aY,?_,by rw [<- List.append_assoc];exact h2,by rw [<- List.append_assoc];exact gW,rb,o,by rw [<- List.append_assoc];exact h3⟩;intro p hp;rcases List.mem_append.1 hp with h|h
   ·exact h0 p h
   have:=h1 p h;omega
  have XP:=fun rb=>XM HN hN (nb:=tb) (cv:=cv) [(rb,.vec pO)];refine aG (F:=Tryz.f105) c105 rfl rfl rfl mixed rfl fun X=>?_;(conv=>whnf);repeat ((first|(intro (rb:Nat))|(refine aB.mono ?_ (XP _)));conv=>whnf)
  rintro v h' ⟨k,pR,aY,rfl,dI,mz,AZ,rfl⟩;cases AZ with
  | done hd=>omega
  | step hA hB=>
  rename_i c nV xi;obtain ⟨hX,h1,hY,rfl,cp,th⟩:=hA.pick rfl dI;obtain ⟨ni,oS⟩:∃ e,e=es++pR:=⟨_,rfl⟩;rw [<- oS] at dI hB th;clear hA hN
  have fin:∀ (t:Nat) (due:Bool) (Q:List Wy) (fv:AV) (fh:af) (ov:AV) (oh:af) (ext:gb) (hC:af),AX (ga E x) t due Q->Out 4 aq ((aW (ga E x)).take t) fv fh->eA Q ov oh->(∀ p∈ext,x.n+1<=p.1.n)->eb E c (x.n+1) (ni++ext) hC ->
    ∃ aY,eb E (c+1) x.n (ni++ext) aY/\((k,Ob.vec (ch (iW E x) fv ov due))::(fh++(oh++(hX++(hY++hC))))).Perm aY:=by
   intro t due Q fv fh ov oh ext hC h1 h2 h3 h4 h5;have h6:=(th _ ⟨t,due,Q,fv,fh,ov,oh,h1,h2,h3,rfl⟩).more (ext:=ext) (fun p hp=>by have:=h4 p hp;omega);refine ⟨_,.step h6 h5,?_⟩;simp only [List.append_assoc,List.cons_append];have:=List.perm_append_comm_assoc (((k,Ob.vec (ch (iW E x) fv ov due))::fh)++oh) hX (hY++hC);simpa using this
  have ka:∀ ext:gb,(dM x (ni++ext)).isSome=true:=fun ext=>by rw [Gz,dI];rfl
  obtain ⟨t0,Jo,Q0,Jp,Jq,AA,AB,yr,CE,CF,rfl⟩:=cp;(conv=>whnf);skip;refine bW rfl mixed [0,2,6,8] [] (fun m r h=>∃ (t:Nat) (due:Bool) (Q:List Wy) (fv:AV) (fh:af) (ov:AV) (oh:af) (ext:gb) (hC:af),r=[(0,[],.au (lj E (.omap tb) cv)),(2,[],.int .i64 aM),(6,[],.bj rb 0),(8,[],.bj k 0)]/\h=(rb,.vec pO)::(tb,ew (ni++ext))::(k,.vec (ch (iW E x) fv ov due))::(fh++(oh++(hX++(hY++hC))))/\m=66 - t/\AX (ga E x) t due Q/\Out 4 aq ((aW (ga E x)).take t) fv fh/\eA Q ov oh/\(∀ p∈ext,x.n+1<=p.1.n)/\eb E c (x.n+1) (ni++ext) hC) ?_ ?_
  ·(conv=>whnf);refine ⟨_,_,ao.perm XO,_,t0,Jo,Q0,Jp,Jq,AA,AB,[],xi,rfl,?_,rfl,yr,CE,CF,(fun p hp=>by cases hp),by rw [List.append_nil];exact hB⟩;rw [List.append_nil];simp;rw [oS]
  clear yr CE CF hB;rintro m r h' ⟨t,due,Q,fv,fh,ov,oh,ext,hC,rfl,rfl,rfl,bf,nK,dB,fO,iA⟩;have gR:=bf.ok.le;have rJ:=nK;have hlen:((aW (ga E x)).take t).length=t:=by rw [List.length_take];omega
  have W5:(((aW (ga E x)).take t).map aq).length=t:=by rw [List.length_map];exact hlen
  have VY:=bf.asked;rcases nK with ⟨hF,rfl,rfl⟩|⟨q,rfl,rfl⟩
  ·have Jr:t=0:=by rw [hF] at hlen;exact hlen.symm
   have Js:due=false:=by
    cases due with
    | false=>rfl
    | true=>have:=bf.ok.pos rfl;omega
   subst Js;have nR:t<=aM:=(by omega);(conv=>whnf);repeat ((refine ⟨_,_,.tail _ (.tail _ (.head _)),rfl,?_⟩);conv=>whnf)
   refine cT (by simp) ?_;(conv=>whnf);repeat ((refine ⟨_,_,.tail _ (.tail _ (.head _)),rfl,?_⟩);conv=>whnf)
   refine cF rfl ?_;cases hQ:Q with
   | nil=>
     subst hQ;have dH:bY E x aM=.aH [.agg pO,.bool false]:=by unfold bY;rw [mo,vn bf.ok.empty nR]
     obtain ⟨tm,dL,eT⟩:=fin _ _ _ _ _ _ _ _ _ bf rJ dB fO iA;rcases dB with ⟨_,rfl,rfl⟩|⟨ob,pr,rfl,rfl⟩
     all_goals
      (conv=>whnf);repeat ((refine ⟨_,_,.tail _ (.tail _ (.head _)),rfl,?_⟩);conv=>whnf)
      refine cT rfl ?_;(conv=>whnf);repeat ((first|(refine ⟨_,_,.here _,aR,?_⟩)|refine ⟨_,_,.head _,rfl,?_⟩);conv=>whnf)
      refine ⟨pR,mz,?_⟩;rw [<- oS];exact ⟨dH.symm,ext,_,fO,dL,ka ext,rb,_,List.Perm.cons _ (List.Perm.cons _ eT)⟩
   | cons z Q'=>
     rcases dB with ⟨h0,rfl,rfl⟩|⟨ob,pr,rfl,rfl⟩
     ·rw [hQ] at h0;cases h0
     subst hQ;obtain ⟨gz,fL⟩:=bf.ok.pop;have cj:=take_one gz;have dw:=bf.bB;have rK:(z::Q').length=Q'.length+1:=rfl;have vp:((aW (ga E x)).take t).length<=65:=(by omega);(conv=>whnf);repeat ((refine ⟨_,_,.tail _ (.tail _ (.head _)),rfl,?_⟩);conv=>whnf)
     refine cF (decide_eq_false (by omega)) ?_;(conv=>whnf);repeat ((first|(refine ⟨_,_,.tail _ (.tail _ (.head _)),rfl,?_⟩)|(refine ⟨0,ah ⟨rfl,by omega⟩,?_⟩)|(refine oM (i:=0) dn (.tail _ (.tail _ (.tail _ (.head _)))) rfl rfl ?_)|refine And.intro (by show aP (aN Tryz.f105 _) _=true;decide +kernel) ?_);conv=>whnf)
     first|refine ⟨Nat.le_of_ble_eq_true rfl,fun q'=>?_⟩|refine ⟨(by simp;unfold aU;omega),fun q'=>⟨_,.there (.there (.there (.here _))),?_⟩⟩
     (conv=>whnf);repeat ((first|refine ⟨ah ⟨by omega,by omega⟩,?_⟩|(refine ⟨_,_,.there (.there (.there (.here _))),aR,?_⟩)|(refine ⟨_,_,.tail _ (.tail _ (.tail _ (.head _))),rfl,?_⟩));conv=>whnf)
     have e1:pr.length+Int.toNat 1*4=(pr++aq z).length:=by rw [List.length_append];rfl
     have e2:(((z::Q').length:Nat):Int).toNat - Int.toNat 1=Q'.length:=by rw [Int.toNat_natCast];rfl
     have e3:pr++((z::Q').map aq).flatten=(pr++aq z)++(Q'.map aq).flatten:=(by simp);have iw:Q'.length+(if true=true then 1 else 0)<=60000:=by simp at dw ⊢;omega
     rw [e1,e2,e3]
     first
      | exact ⟨_,_,ao.refl _ _,_,(by omega),t+1,true,Q',_,[(q',.tok)],_,[(ob,_)],ext,hC,rfl,rfl,rfl,⟨fL,iw,by omega⟩,.inr ⟨q',by rw [cj,List.map_append];rfl,rfl⟩,.inr ⟨ob,pr++aq z,rfl,rfl⟩,fO,iA⟩
      | exact ⟨_,_,ao.perm (List.perm_middle (l₁:=[_,_,_])).symm,_,(by omega),t+1,true,Q',_,[(q',.tok)],_,[(ob,_)],ext,hC,rfl,rfl,rfl,⟨fL,iw,by omega⟩,.inr ⟨q',by rw [cj,hF];rfl,rfl⟩,.inr ⟨ob,pr++aq z,rfl,rfl⟩,fO,iA⟩
  (conv=>whnf);repeat ((refine ⟨_,_,.tail _ (.tail _ (.head _)),rfl,?_⟩);conv=>whnf)
  refine ⟨fun hz=>?_,fun hz=>?_⟩<;>simp at hz
  ·have nR:t<=aM:=(by omega);cases due with
   | false=>
     (conv=>whnf);repeat ((refine ⟨_,_,.tail _ (.tail _ (.head _)),rfl,?_⟩);conv=>whnf)
     refine cF rfl ?_;cases hQ:Q with
     | nil=>
       subst hQ;have dH:bY E x aM=.aH [.agg pO,.bool false]:=by unfold bY;rw [mo,vn bf.ok.empty nR]
       obtain ⟨tm,dL,eT⟩:=fin _ _ _ _ _ _ _ _ _ bf rJ dB fO iA;rcases dB with ⟨_,rfl,rfl⟩|⟨ob,pr,rfl,rfl⟩
       all_goals
        (conv=>whnf);repeat ((refine ⟨_,_,.tail _ (.tail _ (.head _)),rfl,?_⟩);conv=>whnf)
        refine cT rfl ?_;(conv=>whnf);repeat ((first|(refine ⟨_,_,.here _,aR,?_⟩)|refine ⟨_,_,.head _,rfl,?_⟩);conv=>whnf)
        refine ⟨pR,mz,?_⟩;rw [<- oS];exact ⟨dH.symm,ext,_,fO,dL,ka ext,rb,_,List.Perm.cons _ (List.Perm.cons _ eT)⟩
     | cons z Q'=>
       rcases dB with ⟨h0,rfl,rfl⟩|⟨ob,pr,rfl,rfl⟩
       ·rw [hQ] at h0;cases h0
       subst hQ;obtain ⟨gz,fL⟩:=bf.ok.pop;have cj:=take_one gz;have dw:=bf.bB;have rK:(z::Q').length=Q'.length+1:=rfl;have vp:((aW (ga E x)).take t).length<=65:=(by omega);(conv=>whnf);repeat ((refine ⟨_,_,.tail _ (.tail _ (.head _)),rfl,?_⟩);conv=>whnf)
       refine cF (decide_eq_false (by omega)) ?_;(conv=>whnf);repeat ((first|(refine ⟨_,_,.tail _ (.tail _ (.head _)),rfl,?_⟩)|(refine ⟨0,ah ⟨rfl,by omega⟩,?_⟩)|(refine oM (i:=0) dn (.tail _ (.tail _ (.tail _ (.tail _ (.head _))))) rfl rfl ?_)|refine And.intro (by show aP (aN Tryz.f105 _) _=true;decide +kernel) ?_);conv=>whnf)
       first|refine ⟨Nat.le_of_ble_eq_true rfl,fun q'=>?_⟩|refine ⟨(by simp;unfold aU;omega),fun q'=>⟨_,.there (.there (.there (.here _))),?_⟩⟩
       (conv=>whnf);repeat ((first|refine ⟨ah ⟨by omega,by omega⟩,?_⟩|(refine ⟨_,_,.there (.there (.here _)),aR,?_⟩)|(refine ⟨_,_,.tail _ (.tail _ (.head _)),rfl,?_⟩));conv=>whnf)
       have e1:pr.length+Int.toNat 1*4=(pr++aq z).length:=by rw [List.length_append];rfl
       have e2:(((z::Q').length:Nat):Int).toNat - Int.toNat 1=Q'.length:=by rw [Int.toNat_natCast];rfl
       have e3:pr++((z::Q').map aq).flatten=(pr++aq z)++(Q'.map aq).flatten:=(by simp);have iw:Q'.length+(if true=true then 1 else 0)<=60000:=by simp at dw ⊢;omega
       rw [e1,e2,e3]
       first
        | exact ⟨_,_,ao.refl _ _,_,(by omega),t+1,true,Q',_,[(q',.tok)],_,[(ob,_)],ext,hC,rfl,rfl,rfl,⟨fL,iw,by omega⟩,.inr ⟨q',by rw [cj,List.map_append];rfl,rfl⟩,.inr ⟨ob,pr++aq z,rfl,rfl⟩,fO,iA⟩
        | exact ⟨_,_,ao.perm (List.perm_middle (l₁:=[_,_,_])).symm,_,(by omega),t+1,true,Q',_,[(q',.tok)],_,[(ob,_)],ext,hC,rfl,rfl,rfl,⟨fL,iw,by omega⟩,.inr ⟨q',by rw [cj,hF];rfl,rfl⟩,.inr ⟨ob,pr++aq z,rfl,rfl⟩,fO,iA⟩
   | true=>
     obtain ⟨y,hy⟩:=bf.ok.last;have yJ:=bf.ok.pos rfl;have Ct:=Cs hy;have FR:((aW (ga E x)).take t)[t - 1]?=some y:=by rw [List.getElem?_take_of_lt (by omega)];exact hy
     obtain ⟨_,cl,bz,bG⟩:=jR hy;have XQ:=(List.getElem?_eq_some_iff.1 bz).1;rw [AU] at XQ;have lX:y.aO<=40000:=(by omega);by_cases JX:y.aO=0
     ·have dF:(tg E x)[y.aM+1]?=none:=by
       unfold tg;split<;>simp
      have bf:AX (ga E x) t false Q:=⟨bf.ok.skip hy (by rw [JX];exact AW E x) dF,by have:=bf.bB;simp at this ⊢;omega,bf.asked⟩;(conv=>whnf);repeat ((refine ⟨_,_,.tail _ (.tail _ (.head _)),rfl,?_⟩);conv=>whnf)
      refine cT rfl ?_;(conv=>whnf);repeat ((first|refine ⟨ah ⟨by omega,by omega⟩,?_⟩|(refine ⟨_,_,.there (.there (.here _)),aR,?_⟩)|(refine ⟨_,_,.tail _ (.tail _ (.head _)),rfl,?_⟩)|(refine dg (t - 1) (by omega) FR ?_)|refine ⟨_,_,bo.here _,?_⟩|refine ⟨_,_,.here _,aR,?_⟩|refine And.intro (by show aP (aN Tryz.f105 _) _=true;decide +kernel) ?_|intro (nb:Nat));conv=>whnf)
      refine cF (decide_eq_false (by omega)) ?_;cases hQ:Q with
      | nil=>
        subst hQ;have dH:bY E x aM=.aH [.agg pO,.bool false]:=by unfold bY;rw [mo,vn bf.ok.empty nR]
        obtain ⟨tm,dL,eT⟩:=fin _ _ _ _ _ _ _ _ _ bf rJ dB fO iA;rcases dB with ⟨_,rfl,rfl⟩|⟨ob,pr,rfl,rfl⟩
        all_goals
         (conv=>whnf);repeat ((refine ⟨_,_,.tail _ (.tail _ (.head _)),rfl,?_⟩);conv=>whnf)
         refine cT rfl ?_;(conv=>whnf);repeat ((first|(refine ⟨_,_,.here _,aR,?_⟩)|refine ⟨_,_,.head _,rfl,?_⟩);conv=>whnf)
         refine ⟨pR,mz,?_⟩;rw [<- oS];exact ⟨dH.symm,ext,_,fO,dL,ka ext,rb,_,List.Perm.cons _ (List.Perm.cons _ eT)⟩
      | cons z Q'=>
        rcases dB with ⟨h0,rfl,rfl⟩|⟨ob,pr,rfl,rfl⟩
        ·rw [hQ] at h0;cases h0
        subst hQ;obtain ⟨gz,fL⟩:=bf.ok.pop;have cj:=take_one gz;have dw:=bf.bB;have rK:(z::Q').length=Q'.length+1:=rfl;have vp:((aW (ga E x)).take t).length<=65:=(by omega);(conv=>whnf);repeat ((refine ⟨_,_,.tail _ (.tail _ (.head _)),rfl,?_⟩);conv=>whnf)
        refine cF (decide_eq_false (by omega)) ?_;(conv=>whnf);repeat ((first|(refine ⟨_,_,.tail _ (.tail _ (.head _)),rfl,?_⟩)|(refine ⟨0,ah ⟨rfl,by omega⟩,?_⟩)|(refine oM (i:=0) dn (.tail _ (.tail _ (.tail _ (.tail _ (.head _))))) rfl rfl ?_)|refine And.intro (by show aP (aN Tryz.f105 _) _=true;decide +kernel) ?_);conv=>whnf)
        first|refine ⟨Nat.le_of_ble_eq_true rfl,fun q'=>?_⟩|refine ⟨(by simp;unfold aU;omega),fun q'=>⟨_,.there (.there (.there (.here _))),?_⟩⟩
        (conv=>whnf);repeat ((first|refine ⟨ah ⟨by omega,by omega⟩,?_⟩|(refine ⟨_,_,.there (.there (.here _)),aR,?_⟩)|(refine ⟨_,_,.tail _ (.tail _ (.head _)),rfl,?_⟩));conv=>whnf)
        have e1:pr.length+Int.toNat 1*4=(pr++aq z).length:=by rw [List.length_append];rfl
        have e2:(((z::Q').length:Nat):Int).toNat - Int.toNat 1=Q'.length:=by rw [Int.toNat_natCast];rfl
        have e3:pr++((z::Q').map aq).flatten=(pr++aq z)++(Q'.map aq).flatten:=(by simp);have iw:Q'.length+(if true=true then 1 else 0)<=60000:=by simp at dw ⊢;omega
        rw [e1,e2,e3]
        first
         | exact ⟨_,_,ao.refl _ _,_,(by omega),t+1,true,Q',_,[(q',.tok)],_,[(ob,_)],ext,hC,rfl,rfl,rfl,⟨fL,iw,by omega⟩,.inr ⟨q',by rw [cj,List.map_append];rfl,rfl⟩,.inr ⟨ob,pr++aq z,rfl,rfl⟩,fO,iA⟩
         | exact ⟨_,_,ao.perm (List.perm_middle (l₁:=[_,_,_])).symm,_,(by omega),t+1,true,Q',_,[(q',.tok)],_,[(ob,_)],ext,hC,rfl,rfl,rfl,⟨fL,iw,by omega⟩,.inr ⟨q',by rw [cj,hF];rfl,rfl⟩,.inr ⟨ob,pr++aq z,rfl,rfl⟩,fO,iA⟩
     obtain ⟨mv,uA⟩:=aL (l:=fB E x) (i:=y.aO - 1) (by omega);have pQ:=cG mv (List.mem_of_getElem? uA);have cp:=pQ.next;have Kr:=pQ.cost;have zh:=Dm uA;rw [show y.aO - 1+1=y.aO by omega] at zh;(conv=>whnf);repeat ((refine ⟨_,_,.tail _ (.tail _ (.head _)),rfl,?_⟩);conv=>whnf)
     refine cT rfl ?_;(conv=>whnf);repeat ((first|refine ⟨ah ⟨by omega,by omega⟩,?_⟩|(refine ⟨_,_,.there (.there (.here _)),aR,?_⟩)|(refine ⟨_,_,.tail _ (.tail _ (.head _)),rfl,?_⟩)|(refine dg (t - 1) (by omega) FR ?_)|refine ⟨_,_,bo.here _,?_⟩|refine ⟨_,_,.here _,aR,?_⟩|refine And.intro (by show aP (aN Tryz.f105 _) _=true;decide +kernel) ?_|intro (nb:Nat));conv=>whnf)
     refine cT (decide_eq_true (by omega)) ?_;have sQ:=oN (IH mv.to pQ.to cp) (nb:=tb) (cv:=cv) (es:=ni++ext) (c:=c) (hB:=hC) (aM:=y.aM+1) (by rw [cp];exact iA) (by omega) [(rb,.vec pO)] ((k,.vec (ch (iW E x) (.sl 4 (some q) (((aW (ga E x)).take t).map aq)) ov false))::(q,.tok)::(oh++(hX++hY)));simp only [List.append_assoc,List.cons_append] at sQ;(conv=>whnf);repeat ((first|refine ⟨ah ⟨by omega,by omega⟩,?_⟩|(refine ⟨_,_,.tail _ (.tail _ (.head _)),rfl,?_⟩)|(refine dg (enc:=vJ) (y.aO - 1) (by omega) uA ?_)|(refine aB.mono ?_ sQ)|refine ⟨_,_,bo.here _,?_⟩|refine ⟨_,_,.here _,aR,?_⟩|refine And.intro (by show aP (aN Tryz.f105 _) _=true;decide +kernel) ?_|intro (nb:Nat));conv=>whnf)
     rintro v h1 ⟨rfl,ik,vM,fk,dL,rfl⟩;rw [cp] at dL fk
     have xj:∀ p∈ext++ik,x.n+1<=p.1.n:=by
      intro p hp;rcases List.mem_append.1 hp with h|h
      ·exact fO p h
      exact fk p h
     have pE:((eY E mv.to).map fun w=>w.cost+(mv.cost*16+1))[y.aM+1]?=((eY E mv.to)[y.aM+1]?).map fun w=>w.cost+(mv.cost*16+1):=List.getElem?_map;have dw:=bf.bB;have VZ:Q.length+1<=60000:=(by simpa using dw);obtain ⟨zi,Qo⟩:∃ e,e=ext++ik:=⟨_,rfl⟩;rw [<- Qo] at xj dL;rw [<- Qo];have fO:=xj;have iA:=dL;obtain ⟨ext,rfl⟩:∃ e,e=zi:=⟨_,rfl⟩;obtain ⟨hC,rfl⟩:∃ e,e=vM:=⟨_,rfl⟩;cases hw:(eY E mv.to)[y.aM+1]? with
     | none=>
       have dH:bY E mv.to (y.aM+1)=.aH [.agg pO,.bool false]:=by unfold bY;rw [hw]
       rw [hw] at pE;rw [dH];have bf:AX (ga E x) t false Q:=⟨bf.ok.skip hy zh pE,by simp;omega,bf.asked⟩;(conv=>whnf);repeat ((first|refine ⟨_,_,bo.here _,⟨Nat.le_of_ble_eq_true rfl,rfl⟩,?_⟩|intro (nb:Nat));conv=>whnf)
       refine cF rfl ?_;cases hQ:Q with
       | nil=>
         subst hQ;have dH:bY E x aM=.aH [.agg pO,.bool false]:=by unfold bY;rw [mo,vn bf.ok.empty nR]
         obtain ⟨tm,dL,eT⟩:=fin _ _ _ _ _ _ _ _ _ bf rJ dB fO iA;rcases dB with ⟨_,rfl,rfl⟩|⟨ob,pr,rfl,rfl⟩
         all_goals
          (conv=>whnf);repeat ((refine ⟨_,_,.tail _ (.tail _ (.head _)),rfl,?_⟩);conv=>whnf)
          refine cT rfl ?_;(conv=>whnf);repeat ((first|(refine ⟨_,_,.here _,aR,?_⟩)|refine ⟨_,_,.head _,rfl,?_⟩);conv=>whnf)
          refine ⟨pR,mz,?_⟩;rw [<- oS];exact ⟨dH.symm,ext,_,fO,dL,ka ext,rb,_,List.Perm.cons _ (List.Perm.cons _ eT)⟩
       | cons z Q'=>
         rcases dB with ⟨h0,rfl,rfl⟩|⟨ob,pr,rfl,rfl⟩
         ·rw [hQ] at h0;cases h0
         subst hQ;obtain ⟨gz,fL⟩:=bf.ok.pop;have cj:=take_one gz;have dw:=bf.bB;have rK:(z::Q').length=Q'.length+1:=rfl;have vp:((aW (ga E x)).take t).length<=65:=(by omega);(conv=>whnf);repeat ((refine ⟨_,_,.tail _ (.tail _ (.head _)),rfl,?_⟩);conv=>whnf)
         refine cF (decide_eq_false (by omega)) ?_;(conv=>whnf);repeat ((first|(refine ⟨_,_,.tail _ (.tail _ (.head _)),rfl,?_⟩)|(refine ⟨0,ah ⟨rfl,by omega⟩,?_⟩)|(refine oM (i:=0) dn (.tail _ (.tail _ (.tail _ (.tail _ (.head _))))) rfl rfl ?_)|refine And.intro (by show aP (aN Tryz.f105 _) _=true;decide +kernel) ?_);conv=>whnf)
         first|refine ⟨Nat.le_of_ble_eq_true rfl,fun q'=>?_⟩|refine ⟨(by simp;unfold aU;omega),fun q'=>⟨_,.there (.there (.there (.here _))),?_⟩⟩
         (conv=>whnf);repeat ((first|refine ⟨ah ⟨by omega,by omega⟩,?_⟩|(refine ⟨_,_,.there (.there (.here _)),aR,?_⟩)|(refine ⟨_,_,.tail _ (.tail _ (.head _)),rfl,?_⟩));conv=>whnf)
         have e1:pr.length+Int.toNat 1*4=(pr++aq z).length:=by rw [List.length_append];rfl
         have e2:(((z::Q').length:Nat):Int).toNat - Int.toNat 1=Q'.length:=by rw [Int.toNat_natCast];rfl
         have e3:pr++((z::Q').map aq).flatten=(pr++aq z)++(Q'.map aq).flatten:=(by simp);have iw:Q'.length+(if true=true then 1 else 0)<=60000:=by simp at dw ⊢;omega
         rw [e1,e2,e3]
         first
          | exact ⟨_,_,ao.refl _ _,_,(by omega),t+1,true,Q',_,[(q',.tok)],_,[(ob,_)],ext,hC,rfl,rfl,rfl,⟨fL,iw,by omega⟩,.inr ⟨q',by rw [cj,List.map_append];rfl,rfl⟩,.inr ⟨ob,pr++aq z,rfl,rfl⟩,fO,iA⟩
          | exact ⟨_,_,ao.perm (List.perm_middle (l₁:=[_,_,_])).symm,_,(by omega),t+1,true,Q',_,[(q',.tok)],_,[(ob,_)],ext,hC,rfl,rfl,rfl,⟨fL,iw,by omega⟩,.inr ⟨q',by rw [cj,hF];rfl,rfl⟩,.inr ⟨ob,pr++aq z,rfl,rfl⟩,fO,iA⟩
     | some w=>
       have dH:bY E mv.to (y.aM+1)=.aH [.agg (aq w),.bool true]:=by unfold bY;rw [hw]
       rw [hw] at pE;have CI:=Gy hE _ mv.to pQ.to rfl w (List.mem_of_getElem? hw);have hd:(12 - mv.to.n).toNat<=11:=(by omega);rw [dH];(conv=>whnf);repeat ((first|refine ⟨_,_,bo.here _,⟨Nat.le_of_ble_eq_true rfl,rfl⟩,?_⟩|intro (nb:Nat));conv=>whnf)
       refine cT rfl ?_;have jj:=mV (x:=⟨w.cost+(mv.cost*16+1),y.aO,y.aM+1⟩) bf.ok.sorted (nk:=k) (mv:=iW E x) (fv:=.sl 4 (some q) (((aW (ga E x)).take t).map aq)) (due:=false) dB (by omega) [(rb,.vec pO),(tb,ew (ni++ext))] [(q,.tok)] (hX++(hY++hC));rw [XN _ _ _ _ CI.1 (by omega)] at jj;(conv=>whnf);repeat ((first|refine ⟨ah ⟨by omega,by omega⟩,?_⟩|(refine aB.mono ?_ jj)|refine And.intro (by show aP (aN Tryz.f105 _) _=true;decide +kernel) ?_);conv=>whnf)
       have fL:AX (ga E x) t false (iK ⟨w.cost+(mv.cost*16+1),y.aO,y.aM+1⟩ Q):=⟨bf.ok.push hy zh pE,by rw [wM];simp;omega,bf.asked⟩;clear bf dB;rintro v h1 ⟨rfl,ov,oh,dB,rfl⟩;obtain ⟨Q,Jv⟩:∃ Q',Q'=iK ⟨w.cost+(mv.cost*16+1),y.aO,y.aM+1⟩ Q:=⟨_,rfl⟩;rw [<- Jv] at dB fL;have bf:=fL;(conv=>whnf);repeat ((refine ⟨_,_,.tail _ (.tail _ (.head _)),rfl,?_⟩);conv=>whnf)
       cases hQ:Q with
       | nil=>
         subst hQ;have dH:bY E x aM=.aH [.agg pO,.bool false]:=by unfold bY;rw [mo,vn bf.ok.empty nR]
         obtain ⟨tm,dL,eT⟩:=fin _ _ _ _ _ _ _ _ _ bf rJ dB fO iA;rcases dB with ⟨_,rfl,rfl⟩|⟨ob,pr,rfl,rfl⟩
         all_goals
          (conv=>whnf);skip;refine cT rfl ?_;(conv=>whnf);repeat ((first|(refine ⟨_,_,.here _,aR,?_⟩)|refine ⟨_,_,.head _,rfl,?_⟩);conv=>whnf)
          refine ⟨pR,mz,?_⟩;rw [<- oS];exact ⟨dH.symm,ext,_,fO,dL,ka ext,rb,_,List.Perm.cons _ (List.Perm.cons _ eT)⟩
       | cons z Q'=>
         rcases dB with ⟨h0,rfl,rfl⟩|⟨ob,pr,rfl,rfl⟩
         ·rw [hQ] at h0;cases h0
         subst hQ;obtain ⟨gz,fL⟩:=bf.ok.pop;have cj:=take_one gz;have dw:=bf.bB;have rK:(z::Q').length=Q'.length+1:=rfl;have vp:((aW (ga E x)).take t).length<=65:=(by omega);(conv=>whnf);skip;refine cF (decide_eq_false (by omega)) ?_;(conv=>whnf);repeat ((first|(refine ⟨_,_,.tail _ (.tail _ (.head _)),rfl,?_⟩)|(refine ⟨0,ah ⟨rfl,by omega⟩,?_⟩)|(refine oM (i:=0) dn (.tail _ (.tail _ (.tail _ (.tail _ (.head _))))) rfl rfl ?_)|refine And.intro (by show aP (aN Tryz.f105 _) _=true;decide +kernel) ?_);conv=>whnf)
         first|refine ⟨Nat.le_of_ble_eq_true rfl,fun q'=>?_⟩|refine ⟨(by simp;unfold aU;omega),fun q'=>⟨_,.there (.there (.there (.here _))),?_⟩⟩
         (conv=>whnf);repeat ((first|refine ⟨ah ⟨by omega,by omega⟩,?_⟩|(refine ⟨_,_,.there (.there (.here _)),aR,?_⟩)|(refine ⟨_,_,.tail _ (.tail _ (.head _)),rfl,?_⟩));conv=>whnf)
         have e1:pr.length+Int.toNat 1*4=(pr++aq z).length:=by rw [List.length_append];rfl
         have e2:(((z::Q').length:Nat):Int).toNat - Int.toNat 1=Q'.length:=by rw [Int.toNat_natCast];rfl
         have e3:pr++((z::Q').map aq).flatten=(pr++aq z)++(Q'.map aq).flatten:=(by simp);have iw:Q'.length+(if true=true then 1 else 0)<=60000:=by simp at dw ⊢;omega
         rw [e1,e2,e3]
         first
          | exact ⟨_,_,ao.refl _ _,_,(by omega),t+1,true,Q',_,[(q',.tok)],_,[(ob,_)],ext,hC,rfl,rfl,rfl,⟨fL,iw,by omega⟩,.inr ⟨q',by rw [cj,List.map_append];rfl,rfl⟩,.inr ⟨ob,pr++aq z,rfl,rfl⟩,fO,iA⟩
          | exact ⟨_,_,ao.perm (List.perm_middle (l₁:=[_,_,_])).symm,_,(by omega),t+1,true,Q',_,[(q',.tok)],_,[(ob,_)],ext,hC,rfl,rfl,rfl,⟨fL,iw,by omega⟩,.inr ⟨q',by rw [cj,hF];rfl,rfl⟩,.inr ⟨ob,pr++aq z,rfl,rfl⟩,fO,iA⟩
  obtain ⟨w,hw⟩:=aL (l:=(aW (ga E x)).take t) (i:=aM) (by omega);have oO:=hw;rw [List.getElem?_take_of_lt (by omega)] at oO;obtain ⟨tm,dL,eT⟩:=fin _ _ _ _ _ _ _ _ _ bf rJ dB fO iA;(conv=>whnf);repeat ((first|refine ix (by assumption) ?_|(refine ⟨_,_,.tail _ (.tail _ (.head _)),rfl,?_⟩)|(refine ⟨_,_,.here _,aR,?_⟩)|refine ⟨_,_,.head _,rfl,?_⟩);conv=>whnf)
  refine ⟨pR,mz,?_⟩;rw [<- oS];refine ⟨?_,ext,_,fO,dL,ka ext,rb,_,List.Perm.cons _ (List.Perm.cons _ eT)⟩;unfold bY;rw [mo,oO];rfl
 rintro v h1 ⟨hv,ext,aY,he,jz,gW,rb,o,eT⟩;refine ⟨v,_,⟨hv,ext,aY,he,jz,gW,rfl⟩,ag.refl _,fun k o hm=>eT.mem_iff.2 (List.mem_cons_of_mem _ hm),fun hn=>?_⟩;have:=((eT.map (fun p:Nat × Ob=>p.1)).nodup_iff).1 hn;exact (List.nodup_cons.1 this).2
end Go.Abs.Wall.Spl
