/- Small laws for the walks and contracts of functions; each theorem names its conditions. -/
import Derived.Test.YthmcbjcgdfmmaaaGreatN21
import Derived.Test.YthmcbjcgdfmmaaaGreatN15
set_option maxRecDepth 100000
set_option maxHeartbeats 2000000
namespace Go.Abs.Wall.Spl
open Go Go.Abs Go.Proofs Go.Abs.Wall
open Go.Abs.Wall.Lst hiding al iW nG kQ ij dA nH lY nI nJ nK nL nM fj nO cm nP rH uc bW kS qB oO rI getAll
def vI (x:bA):AV:=.agg (ko x)
def JR (k:Nat):AV:=.ba k 0
def eB (es:fW):Ob:=.map (pI vI JR es)
theorem JS (a b:bA):jD Tryz.prog 140 (vI a) (vI b)=some (decide (a=b)):=by obtain ⟨a1,a2,a3,a4⟩:=a;obtain ⟨b1,b2,b3,b4⟩:=b;have h:jD Tryz.prog 140 (vI ⟨a1,a2,a3,a4⟩) (vI ⟨b1,b2,b3,b4⟩)=some (decide (a1=b1)&&(decide (a2=b2)&&(decide (a3=b3)&&(decide (a4=b4)&&true)))):=(by first|rfl|kernel_rfl);rw [h];congr 1;rw [Bool.eq_iff_iff];simp
theorem Pp:pg Tryz.prog 140=true:=by decide +kernel
theorem JT {es:fW} {x:bA} {b:Nat} {h:af} {g:G} {K:AV->Prop} (hm:(b,eB es)∈h)
  (hk:K (sA true (((dP x es).map JR).getD .jC) (dP x es).isSome)) :
  ∃ es v f,(b,Ob.map es)∈h/\gP g (sz Tryz.prog 140 (vI x)/\yd Tryz.prog 140 (vI x) es .jC=some (v,f))/\K (sA true v f):=
 ⟨_,_,_,hm,ag ⟨JU JS Pp x,Pq JS x es _⟩,hk⟩
def pJ:List AV:=[.int .i64 0,.int .i64 0,.int .i64 0,.int .i64 0]
def bW (E:Env) (x:bA) (aO:Nat):AV:=match (eA E x)[aO]? with
 | some w=>.aB [.agg (al w),.bool true]
 | none=>.aB [.agg pJ,.bool false]
def kS (E:Env) (x:bA):Prop:=∀ (nb:Nat) (cv:AV) (es:fW) (c:Nat) (hp:af) (aO:Nat),ef E c x.n es hp->aO<=64 ->
 aw Tryz.prog 60 [.ai (kW E (.omap nb) cv),.agg (ko x),.int .i64 aO] ((nb,eB es)::hp)
  (fun v h'=>v=bW E x aO/\∃ ext aX,(∀ p∈ext,x.n<=p.1.n)/\ef E c x.n (es++ext) aX/\(dP x (es++ext)).isSome=true/\h'=(nb,eB (es++ext))::aX)
def FZ (E:Env) (x:bA):Prop:=∀ (nb:Nat) (cv:AV) (es:fW) (c:Nat) (hp:af),ef E c x.n es hp ->
 aw Tryz.prog 61 [.ai (kW E (.omap nb) cv),.agg (ko x)] ((nb,eB es)::hp)
  (fun v h'=>∃ k ext aX,v=.ba k 0/\dP x (es++ext)=some k/\(∀ p∈ext,x.n<=p.1.n)/\ef E c x.n (es++ext) aX/\h'=(nb,eB (es++ext))::aX)
theorem Pr {A B D:af} {m:Nat × Ob}:(m::D++(A++B)).Perm (A++m::(B++D)):=by refine List.Perm.trans ?_ List.perm_middle.symm;refine List.Perm.cons _ ?_;rw [<- List.append_assoc];exact List.perm_append_comm
theorem _root_.Go.Abs.Wall.Spl.ef.more {E:Env}:∀ {c:Nat} {d:Int} {es:fW} {hp:af} {ext:fW},ef E c d es hp->(∀ p∈ext,p.1.n<d)->ef E c d (es++ext) hp
 | _,_,_,_,ext,.done h,_=>.done h
 | _,_,_,_,ext,.step hA hB,he=>.step (hA.more fun p hp=>by have:=he p hp;omega) (hB.more fun p hp=>by have:=he p hp;omega)
theorem qB {E:Env} {y:bA} (IH:kS E y) {nb:Nat} {cv:AV} {es:fW} {c:Nat} {hB:af} {aO:Nat} (hn:ef E c y.n es hB) (hr:aO<=64) (A B:af) :
  aw Tryz.prog 60 [.ai (kW E (.omap nb) cv),.agg (ko y),.int .i64 aO] (A++(nb,eB es)::(B++hB))
   (fun v H'=>v=bW E y aO/\∃ ext xk,(∀ p∈ext,y.n<=p.1.n)/\ef E c y.n (es++ext) xk/\H'=A++(nb,eB (es++ext))::(B++xk)):=by
 refine aw.re (IH nb cv es c hB aO hn hr) (h2:=A++B) Pr ?_;rintro v h1 ⟨hv,ext,aX,he,jm,_,rfl⟩;exact ⟨_,Pr,hv,ext,aX,he,jm,rfl⟩
theorem oO {x:Wy} {Q:List Wy} (hs:Q.Pairwise dy) {nk:Nat} {mv fv:AV} {due:Bool} {ov:AV} {oh:af} (ho:fj Q ov oh) (hl:Q.length<=65536) (A B C:af) :
  aw Tryz.prog 98 [.ba nk 2,.agg (al x)] (A++(nk,.vec (cm mv fv ov due))::(B++(oh++C)))
   (fun v H'=>v=.aB []/\∃ iH iI,fj (iF x Q) iH iI/\H'=A++(nk,.vec (cm mv fv iH due))::(B++(iI++C))):=by
 have key:∀ (o:Nat × Ob) (oh:af),(o::oh++(A++(B++C))).Perm (A++o::(B++(oh++C))):=by intro o oh;refine List.Perm.trans ?_ List.perm_middle.symm;exact List.Perm.cons _ NX
 refine aw.re (nP x Q hs nk mv fv due ov oh ho hl) (key _ _) ?_;rintro v h3 ⟨rfl,iH,iI,bF,rfl⟩;exact ⟨_,key _ _,rfl,iH,iI,bF,rfl⟩
def c61:av:=⟨[0,1,3,4,5,6,7,8,9,10,11,12,13,23,43,54,55,56,57,68],[30],[11,12],[],[(1,[0,1,2,3,4,5,6,7,8,9,10],[]),(5,[0,1,2,3,4,5,6],[]),(14,[0,1,2,3,4,5,6,7,8,9,10,11,12,13,14,15,16],[])],[85]⟩
theorem Ps (E:Env) (hE:gk E) (x:bA) (hx:gY E x) (IH:∀ y,gY E y->y.n=x.n+1->kS E y):FZ E x:=by
 intro nb cv es c hp hN;have Dg:=hx.n;cases dh:dP x es with
 | some k=>
   refine aw.post (R:=fun v h'=>v=.ba k 0/\h'=(nb,eB es)::hp) ?_ ?_
   ·refine aA (F:=Tryz.f61) c61 rfl rfl rfl mixed rfl fun X=>?_;(conv=>whnf);repeat ((first|(refine JT (.head _) ?_)|refine And.intro (by show aJ (aH Tryz.f61 _) _=true;decide +kernel) ?_);conv=>whnf)
    rw [dh];refine cT rfl ?_;(conv=>whnf);skip;exact ⟨rfl,rfl⟩
   rintro v h1 ⟨rfl,rfl⟩;exact ⟨_,_,⟨k,[],hp,rfl,by rw [List.append_nil];exact dh,by simp,by rw [List.append_nil];exact hN,by rw [List.append_nil]⟩,aa.refl _,fun _ _ h=>h,fun h=>h⟩
 | none=>
   cases hN with
   | done hd=>omega
   | step hA hB=>
   rename_i c nU qK;have bI:=fun m (hm:m∈di E x)=>rO hE hx hm;have fu:=Di (x:=x) hE;have dF:=JP hE x;have fD:=Wx E (.omap nb) cv x hE hx;have WC:=Ws E (.omap nb) cv x hE;refine aw.post (R:=fun v h'=>∃ k ext aX,v=.ba k 0/\dP x (es++ext)=some k/\(∀ p∈ext,x.n<=p.1.n)/\ef E (c+1) x.n (es++ext) aX/\h'.Perm ((nb,eB (es++ext))::aX)) ?_ ?_
   ·refine aA (F:=Tryz.f61) c61 rfl rfl rfl mixed rfl fun X=>?_;(conv=>whnf);repeat ((first|(refine JT (.head _) ?_)|refine And.intro (by show aJ (aH Tryz.f61 _) _=true;decide +kernel) ?_);conv=>whnf)
    rw [dh];refine cF rfl ?_;(conv=>whnf);repeat ((first|refine ab.k0 (fD) ?_|(intro (nk:Nat))|(refine Pt (ek:=vI) (ev:=JR) (k:=x) (v:=nk) JS Pp (.there (.here _)) ?_)|refine ab.k0 (WC) ?_|refine And.intro (by show aJ (aH Tryz.f61 _) _=true;decide +kernel) ?_);conv=>whnf)
    rw [Po dh];have R3:dP x (es++[(x,nk)])=some nk:=by rw [FW,dh];simp [dP]
    have Ga:ef E c (x.n+1) (es++[(x,nk)]) qK:=hB.more (fun p hp=>by rw [List.mem_singleton] at hp;rw [hp];show x.n<x.n+1;omega);refine ⟨fun hq=>?_,fun hq=>?_⟩
    ·have eu:pH E x=[(ez E x).1*16]:=by unfold pH;rw [if_pos hq]
     have tg:=oO (x:=⟨(ez E x).1*16,0,0⟩) (Q:=[]) .nil (nk:=nk) (mv:=iL E x) (fv:=.aS) (due:=false) (ov:=.aS) (oh:=[]) (.inl ⟨rfl,rfl,rfl⟩) (by decide) [] [(nb,eB (es++[(x,nk)]))] (nU++qK)
     rw [show al ⟨(ez E x).1*16,0,0⟩=[.int .i64 (ez E x).1,.int .i64 0,.int .i64 (-1),.int .i64 0] by
      unfold al;rw [show (ez E x).1*16 / 16=(ez E x).1 by omega,show (ez E x).1*16 % 16=0 by omega];rfl] at tg
     have sS:=Fq (Ix (fO E x)) (zi E x) (c:=(ez E x).1*16) (by rw [eu];rfl);(conv=>whnf);repeat ((refine aw.mono ?_ tg);conv=>whnf)
     rintro v h' ⟨rfl,Ay,Az,wX,rfl⟩;obtain ⟨Q0,Pu⟩:∃ Q0,Q0=iF ⟨(ez E x).1*16,0,0⟩ []:=⟨_,rfl⟩;have NZ:Q0.length<=1:=by rw [Pu,wL];exact Nat.le_refl _
     rw [<- Pu] at sS wX;(conv=>whnf);repeat (refine ⟨_,_,.head _,rfl,?_⟩;conv=>whnf)
     refine bD rfl mixed [0,7,54,55,56] [] (fun m r h=>∃ (i:Nat) (Q:List Wy) (ov:AV) (oh:af) (ext:fW) (hC:af),r=[(0,[],.ai (kW E (.omap nb) cv)),(7,[],.ba nk 0),(54,[],iL E x),(55,[],.int .i64 ((di E x).map vD).length),(56,[],.int .i64 i)]/\h=(nk,.vec (cm (iL E x) .aS ov false))::(nb,eB (es++(x,nk)::ext))::(oh++(nU++hC))/\m=(di E x).length - i/\i<=(di E x).length/\ub (fO E x) (i+1) Q/\fj Q ov oh/\Q.length<=i+1/\(∀ p∈ext,x.n+1<=p.1.n)/\ef E c (x.n+1) (es++(x,nk)::ext) hC) ?_ ?_
     ·conv=>whnf
      first
       | exact ⟨_,_,ah.refl _ _,_,0,Q0,Ay,Az,[],qK,rfl,rfl,rfl,by omega,sS,wX,by omega,(fun p hp=>by cases hp),Ga⟩
       | exact ⟨_,_,ah.refl _ _,_,0,[],.aS,[],[],qK,rfl,rfl,rfl,by omega,sS,wX,by omega,(fun p hp=>by cases hp),Ga⟩
     rintro m r h' ⟨i,Q,ov,oh,ext,hC,rfl,rfl,rfl,hi,mU,ho,hQ,fP,hN⟩;(conv=>whnf);refine ⟨fun aG=>?_,fun aG=>?_⟩<;>simp at aG
     ·obtain ⟨m,hm⟩:=aF aG;have pK:=bI m (List.mem_of_getElem? hm);have cz:=pK.next;have vH:=pK.cost;have pC:=qB (IH m.to pK.to cz) (nb:=nb) (cv:=cv) (es:=es++(x,nk)::ext) (c:=c) (hB:=hC) (aO:=0) (by rw [cz];exact hN) (by decide) [(nk,.vec (cm (iL E x) .aS ov false))] (oh++nU);simp only [List.append_assoc] at pC;(conv=>whnf);repeat ((first|refine ix (by assumption) ?_|(intro (b9:Nat))|(refine aw.mono ?_ pC)|refine ⟨_,_,bj.here _,⟨Nat.le_of_ble_eq_true rfl,rfl⟩,?_⟩);conv=>whnf)
      rintro v h' ⟨rfl,gZ,vJ,tf,iu,rfl⟩;rw [cz] at iu;have th:es++(x,nk)::(ext++gZ)=es++(x,nk)::ext++gZ:=by rw [List.append_assoc];rfl
      have xl:∀ p∈ext++gZ,x.n+1<=p.1.n:=by
       intro p hp;rcases List.mem_append.1 hp with h|h
       ·exact fP p h
       have:=tf p h;omega
      have bq:=AM hm;cases hw:(eA E m.to)[0]? with
      | none=>
        have dI:bW E m.to 0=.aB [.agg pJ,.bool false]:=by unfold bW;rw [hw]
        have zj:=Fp mU bq (by rw [List.getElem?_map,hw];rfl);rw [dI];(conv=>whnf);repeat ((first|refine ⟨_,_,bj.here _,⟨Nat.le_of_ble_eq_true rfl,rfl⟩,?_⟩|intro (nb:Nat));conv=>whnf)
        refine cF rfl ?_;(conv=>whnf);repeat (refine ⟨ag ⟨by omega,by omega⟩,?_⟩;conv=>whnf)
        refine ⟨_,_,ah.refl _ _,_,(by omega),i+1,Q,ov,oh,ext++gZ,vJ,rfl,?_,rfl,by omega,zj,ho,by omega,xl,by rw [th];simpa using iu⟩;rw [th];simp
      | some w=>
        have dI:bW E m.to 0=.aB [.agg (al w),.bool true]:=by unfold bW;rw [hw]
        have CD:=Dj hE _ m.to pK.to rfl w (List.mem_of_getElem? hw);have hd:(12 - m.to.n).toNat<=11:=(by omega);have zj:=Fq mU bq (c:=w.cost+(m.cost*16+1)) (by rw [List.getElem?_map,hw];rfl);have tg:=oO (x:=⟨w.cost+(m.cost*16+1),i+1,0⟩) mU.1 (nk:=nk) (mv:=iL E x) (fv:=.aS) (due:=false) ho (by omega) [] [(nb,eB (es++(x,nk)::(ext++gZ)))] (nU++vJ)
        rw [show al ⟨w.cost+(m.cost*16+1),i+1,0⟩=[.int .i64 (w.cost / 16+m.cost),.int .i64 (w.cost % 16+1),.int .i64 i,.int .i64 0] by
         unfold al;rw [show (w.cost+(m.cost*16+1)) / 16=w.cost / 16+m.cost by omega,show (w.cost+(m.cost*16+1)) % 16=w.cost % 16+1 by omega,show ((i+1:Nat):Int) - 1=(i:Int) by omega];rfl] at tg
        rw [dI];(conv=>whnf);repeat ((first|refine ⟨_,_,bj.here _,⟨Nat.le_of_ble_eq_true rfl,rfl⟩,?_⟩|intro (nb:Nat));conv=>whnf)
        refine cT rfl ?_;(conv=>whnf);repeat ((first|refine ⟨ag ⟨by omega,by omega⟩,?_⟩|(refine aw.mono ?_ tg)|refine And.intro (by show aJ (aH Tryz.f61 _) _=true;decide +kernel) ?_);conv=>whnf)
        rintro v h' ⟨rfl,JV,JW,cg,rfl⟩;(conv=>whnf);repeat (refine ⟨ag ⟨by omega,by omega⟩,?_⟩;conv=>whnf)
        refine ⟨_,_,ah.refl _ _,_,(by omega),i+1,_,JV,JW,ext++gZ,vJ,rfl,?_,rfl,by omega,zj,cg,by rw [wL];omega,xl,by rw [th];simpa using iu⟩;rw [th];simp
     have dg:i=(di E x).length:=(by omega);subst dg;rw [<- zh] at mU;have aV:=Iy mU;have cz:AO E x nk ((nk,.vec (cm (iL E x) .aS ov false))::oh):=⟨0,false,Q,.aS,[],ov,oh,⟨aV,by simp;omega,by omega⟩,.inl ⟨rfl,rfl,rfl⟩,ho,rfl⟩;(conv=>whnf);skip;refine ⟨nk,(x,nk)::ext,(nU++((nk,.vec (cm (iL E x) .aS ov false))::oh))++hC,rfl,?_,?_,?_,?_⟩
     ·rw [FW,dh];simp [dP]
     ·intro p hp;rcases List.mem_cons.1 hp with h|h
      ·rw [h];exact Int.le_refl _
      have:=fP p h;omega
     ·refine .step ?_ hN;have h1:=(hA.snoc (k:=nk) rfl cz).more (ext:=ext) (fun p hp=>by have:=fP p hp;omega);rw [List.append_assoc] at h1;exact h1
     refine List.Perm.trans (List.Perm.swap _ _ _) (List.Perm.cons _ ?_);have h1:((nk,Ob.vec (cm (iL E x) .aS ov false))::oh++(nU++hC)).Perm (nU++((nk,Ob.vec (cm (iL E x) .aS ov false))::oh++hC)):=List.perm_append_comm_assoc _ _ _;rw [<- List.append_assoc nU] at h1;exact h1
    have eu:pH E x=[]:=by unfold pH;rw [if_neg (by rw [hq];decide)]
    have sS:=Fp (Ix (fO E x)) (zi E x) (by rw [eu];rfl);have wX:fj [] .aS []:=.inl ⟨rfl,rfl,rfl⟩;have NZ:([]:List Wy).length<=1:=(by simp);(conv=>whnf);repeat (refine ⟨_,_,.head _,rfl,?_⟩;conv=>whnf)
    refine bD rfl mixed [0,7,54,55,56] [] (fun m r h=>∃ (i:Nat) (Q:List Wy) (ov:AV) (oh:af) (ext:fW) (hC:af),r=[(0,[],.ai (kW E (.omap nb) cv)),(7,[],.ba nk 0),(54,[],iL E x),(55,[],.int .i64 ((di E x).map vD).length),(56,[],.int .i64 i)]/\h=(nk,.vec (cm (iL E x) .aS ov false))::(nb,eB (es++(x,nk)::ext))::(oh++(nU++hC))/\m=(di E x).length - i/\i<=(di E x).length/\ub (fO E x) (i+1) Q/\fj Q ov oh/\Q.length<=i+1/\(∀ p∈ext,x.n+1<=p.1.n)/\ef E c (x.n+1) (es++(x,nk)::ext) hC) ?_ ?_
    ·conv=>whnf
     first
      | exact ⟨_,_,ah.refl _ _,_,0,Q0,Ay,Az,[],qK,rfl,rfl,rfl,by omega,sS,wX,by omega,(fun p hp=>by cases hp),Ga⟩
      | exact ⟨_,_,ah.refl _ _,_,0,[],.aS,[],[],qK,rfl,rfl,rfl,by omega,sS,wX,by omega,(fun p hp=>by cases hp),Ga⟩
    rintro m r h' ⟨i,Q,ov,oh,ext,hC,rfl,rfl,rfl,hi,mU,ho,hQ,fP,hN⟩;(conv=>whnf);refine ⟨fun aG=>?_,fun aG=>?_⟩<;>simp at aG
    ·obtain ⟨m,hm⟩:=aF aG;have pK:=bI m (List.mem_of_getElem? hm);have cz:=pK.next;have vH:=pK.cost;have pC:=qB (IH m.to pK.to cz) (nb:=nb) (cv:=cv) (es:=es++(x,nk)::ext) (c:=c) (hB:=hC) (aO:=0) (by rw [cz];exact hN) (by decide) [(nk,.vec (cm (iL E x) .aS ov false))] (oh++nU);simp only [List.append_assoc] at pC;(conv=>whnf);repeat ((first|refine ix (by assumption) ?_|(intro (b9:Nat))|(refine aw.mono ?_ pC)|refine ⟨_,_,bj.here _,⟨Nat.le_of_ble_eq_true rfl,rfl⟩,?_⟩);conv=>whnf)
     rintro v h' ⟨rfl,gZ,vJ,tf,iu,rfl⟩;rw [cz] at iu;have th:es++(x,nk)::(ext++gZ)=es++(x,nk)::ext++gZ:=by rw [List.append_assoc];rfl
     have xl:∀ p∈ext++gZ,x.n+1<=p.1.n:=by
      intro p hp;rcases List.mem_append.1 hp with h|h
      ·exact fP p h
      have:=tf p h;omega
     have bq:=AM hm;cases hw:(eA E m.to)[0]? with
     | none=>
       have dI:bW E m.to 0=.aB [.agg pJ,.bool false]:=by unfold bW;rw [hw]
       have zj:=Fp mU bq (by rw [List.getElem?_map,hw];rfl);rw [dI];(conv=>whnf);repeat ((first|refine ⟨_,_,bj.here _,⟨Nat.le_of_ble_eq_true rfl,rfl⟩,?_⟩|intro (nb:Nat));conv=>whnf)
       refine cF rfl ?_;(conv=>whnf);repeat (refine ⟨ag ⟨by omega,by omega⟩,?_⟩;conv=>whnf)
       refine ⟨_,_,ah.refl _ _,_,(by omega),i+1,Q,ov,oh,ext++gZ,vJ,rfl,?_,rfl,by omega,zj,ho,by omega,xl,by rw [th];simpa using iu⟩;rw [th];simp
     | some w=>
       have dI:bW E m.to 0=.aB [.agg (al w),.bool true]:=by unfold bW;rw [hw]
       have CD:=Dj hE _ m.to pK.to rfl w (List.mem_of_getElem? hw);have hd:(12 - m.to.n).toNat<=11:=(by omega);have zj:=Fq mU bq (c:=w.cost+(m.cost*16+1)) (by rw [List.getElem?_map,hw];rfl);have tg:=oO (x:=⟨w.cost+(m.cost*16+1),i+1,0⟩) mU.1 (nk:=nk) (mv:=iL E x) (fv:=.aS) (due:=false) ho (by omega) [] [(nb,eB (es++(x,nk)::(ext++gZ)))] (nU++vJ)
       rw [show al ⟨w.cost+(m.cost*16+1),i+1,0⟩=[.int .i64 (w.cost / 16+m.cost),.int .i64 (w.cost % 16+1),.int .i64 i,.int .i64 0] by
        unfold al;rw [show (w.cost+(m.cost*16+1)) / 16=w.cost / 16+m.cost by omega,show (w.cost+(m.cost*16+1)) % 16=w.cost % 16+1 by omega,show ((i+1:Nat):Int) - 1=(i:Int) by omega];rfl] at tg
       rw [dI];(conv=>whnf);repeat ((first|refine ⟨_,_,bj.here _,⟨Nat.le_of_ble_eq_true rfl,rfl⟩,?_⟩|intro (nb:Nat));conv=>whnf)
       refine cT rfl ?_;(conv=>whnf);repeat ((first|refine ⟨ag ⟨by omega,by omega⟩,?_⟩|(refine aw.mono ?_ tg)|refine And.intro (by show aJ (aH Tryz.f61 _) _=true;decide +kernel) ?_);conv=>whnf)
       rintro v h' ⟨rfl,JV,JW,cg,rfl⟩;(conv=>whnf);repeat (refine ⟨ag ⟨by omega,by omega⟩,?_⟩;conv=>whnf)
       refine ⟨_,_,ah.refl _ _,_,(by omega),i+1,_,JV,JW,ext++gZ,vJ,rfl,?_,rfl,by omega,zj,cg,by rw [wL];omega,xl,by rw [th];simpa using iu⟩;rw [th];simp
    have dg:i=(di E x).length:=(by omega);subst dg;rw [<- zh] at mU;have aV:=Iy mU;have cz:AO E x nk ((nk,.vec (cm (iL E x) .aS ov false))::oh):=⟨0,false,Q,.aS,[],ov,oh,⟨aV,by simp;omega,by omega⟩,.inl ⟨rfl,rfl,rfl⟩,ho,rfl⟩;(conv=>whnf);skip;refine ⟨nk,(x,nk)::ext,(nU++((nk,.vec (cm (iL E x) .aS ov false))::oh))++hC,rfl,?_,?_,?_,?_⟩
    ·rw [FW,dh];simp [dP]
    ·intro p hp;rcases List.mem_cons.1 hp with h|h
     ·rw [h];exact Int.le_refl _
     have:=fP p h;omega
    ·refine .step ?_ hN;have h1:=(hA.snoc (k:=nk) rfl cz).more (ext:=ext) (fun p hp=>by have:=fP p hp;omega);rw [List.append_assoc] at h1;exact h1
    refine List.Perm.trans (List.Perm.swap _ _ _) (List.Perm.cons _ ?_);have h1:((nk,Ob.vec (cm (iL E x) .aS ov false))::oh++(nU++hC)).Perm (nU++((nk,Ob.vec (cm (iL E x) .aS ov false))::oh++hC)):=List.perm_append_comm_assoc _ _ _;rw [<- List.append_assoc nU] at h1;exact h1
   rintro v h1 ⟨k,ext,aX,rfl,h2,h3,h4,eS⟩;exact ⟨_,_,⟨k,ext,aX,rfl,h2,h3,h4,rfl⟩,aa.refl _,fun _ _ h=>eS.mem_iff.2 h,fun h=>by unfold keys at h ⊢;exact ((eS.map _).nodup_iff).1 h⟩
end Go.Abs.Wall.Spl
namespace Go.Abs.Wall.Spl
open Go Go.Abs Go.Proofs Go.Abs.Wall
open Go.Abs.Wall.Lst hiding al iW nG kQ ij dA nH lY nI nJ nK nL nM fj nO cm nP rH uc bW kS qB oO rI getAll
theorem WD {E:Env} {x:bA} (HN:FZ E x) {nb:Nat} {cv:AV} {es:fW} {c:Nat} {hB:af} (hn:ef E c x.n es hB) (A:af) :
  aw Tryz.prog 61 [.ai (kW E (.omap nb) cv),.agg (ko x)] (A++(nb,eB es)::hB)
   (fun v H'=>∃ k ext aX,v=.ba k 0/\dP x (es++ext)=some k/\(∀ p∈ext,x.n<=p.1.n)/\ef E c x.n (es++ext) aX/\H'=A++(nb,eB (es++ext))::aX):=by
 have permA:∀ {m:Nat × Ob} {D:af},(m::D++A).Perm (A++m::D):=by intro m D;refine List.Perm.trans ?_ List.perm_middle.symm;exact List.Perm.cons _ List.perm_append_comm
 refine aw.re (HN nb cv es c hB hn) (h2:=A) permA ?_;rintro v h1 ⟨k,ext,aX,h2,h3,h4,h5,rfl⟩;exact ⟨_,permA,k,ext,aX,h2,h3,h4,h5,rfl⟩
theorem WE (a b:Int) (e r:Nat) (ha:0<=a) (hr:a % 16+1<16):al ⟨a+(b*16+1),e,r⟩=[.int .i64 (a / 16+b),.int .i64 (a % 16+1),.int .i64 (e - 1),.int .i64 r]:=by unfold al;rw [show (a+(b*16+1)) / 16=a / 16+b by omega,show (a+(b*16+1)) % 16=a % 16+1 by omega]
theorem WG {a b m:Nat × Ob} {X F O Y C:af}:(a::b::(X++(m::(F++O)++Y)++C)).Perm (a::b::m::(F++(O++(X++(Y++C))))):=by refine List.Perm.cons _ (List.Perm.cons _ ?_);have:=List.perm_append_comm_assoc X (m::(F++O)) (Y++C);simpa using this
def c60:av:=⟨[0,1,2,4,6,7,8,9,10,11,12,22,26,44,63,91],[],[9,10,11],[],[(5,[0,1,2,3,4,5,6,7,8,9,10,11,12,13],[9]),(7,[0,1,2,3,4,5,6,7,8,9],[10]),(10,[0,1,2,3,4,5,6,7,8,9,10,11,12,13,14,15,16,17,18,19,20],[]),(13,[0,1,2,3,4,5,6,7,8,9,10,11,12,13,14,15,16],[])],[60,84]⟩
set_option maxHeartbeats 8000000 in
theorem rI (E:Env) (hE:gk E) (x:bA) (hx:gY E x) (HN:FZ E x) (IH:∀ y,gY E y->y.n=x.n+1->kS E y):kS E x:=by
 intro tb cv es c hp aO hN hr;have Dg:=hx.n;have lZ:=zg hE hx;have bI:=fun m (hm:m∈di E x)=>rO hE hx hm;have fu:=Di (x:=x) hE;refine aw.post (R:=fun v h'=>v=bW E x aO/\∃ ext aX,(∀ p∈ext,x.n<=p.1.n)/\ef E c x.n (es++ext) aX/\(dP x (es++ext)).isSome=true/\∃ rb o,h'.Perm ((rb,o)::(tb,eB (es++ext))::aX)) ?_ ?_
 ·refine aw.mono (R:=fun (v:AV) (h':af)=>∃ pL,(∀ p∈pL,x.n<=p.1.n)/\v=bW E x aO/\∃ ext aX,(∀ p∈ext,x.n+1<=p.1.n)/\ef E c x.n (es++pL++ext) aX/\(dP x (es++pL++ext)).isSome=true/\∃ rb o,h'.Perm ((rb,o)::(tb,eB (es++pL++ext))::aX)) ?_ ?_
  ·rintro v h' ⟨pL,h0,hv,ext,aX,h1,h2,gD,rb,o,h3⟩;refine ⟨hv,pL++ext,aX,?_,by rw [<- List.append_assoc];exact h2,by rw [<- List.append_assoc];exact gD,rb,o,by rw [<- List.append_assoc];exact h3⟩;intro p hp;rcases List.mem_append.1 hp with h|h
   ·exact h0 p h
   have:=h1 p h;omega
  have WH:=fun rb=>WD HN hN (nb:=tb) (cv:=cv) [(rb,.vec pJ)];refine aA (F:=Tryz.f60) c60 rfl rfl rfl mixed rfl fun X=>?_;(conv=>whnf);repeat ((first|(intro (rb:Nat))|(refine aw.mono ?_ (WH _)));conv=>whnf)
  rintro v h' ⟨k,pL,aX,rfl,dh,lJ,AP,rfl⟩;cases AP with
  | done hd=>omega
  | step hA hB=>
  rename_i c nU qK;obtain ⟨hX,h1,hY,rfl,cz,tg⟩:=hA.pick rfl dh;obtain ⟨mV,oV⟩:∃ e,e=es++pL:=⟨_,rfl⟩;rw [<- oV] at dh hB tg;clear hA hN
  have fin:∀ (t:Nat) (due:Bool) (Q:List Wy) (fv:AV) (fh:af) (ov:AV) (oh:af) (ext:fW) (hC:af),AN (fO E x) t due Q->Out 4 al ((aW (fO E x)).take t) fv fh->fj Q ov oh->(∀ p∈ext,x.n+1<=p.1.n)->ef E c (x.n+1) (mV++ext) hC ->
    ∃ aX,ef E (c+1) x.n (mV++ext) aX/\((k,Ob.vec (cm (iL E x) fv ov due))::(fh++(oh++(hX++(hY++hC))))).Perm aX:=by
   intro t due Q fv fh ov oh ext hC h1 h2 h3 h4 h5;have h6:=(tg _ ⟨t,due,Q,fv,fh,ov,oh,h1,h2,h3,rfl⟩).more (ext:=ext) (fun p hp=>by have:=h4 p hp;omega);refine ⟨_,.step h6 h5,?_⟩;simp only [List.append_assoc,List.cons_append];have:=List.perm_append_comm_assoc (((k,Ob.vec (cm (iL E x) fv ov due))::fh)++oh) hX (hY++hC);simpa using this
  have jR:∀ ext:fW,(dP x (mV++ext)).isSome=true:=fun ext=>by rw [FW,dh];rfl
  obtain ⟨t0,IM,Q0,IP,IQ,Ay,Az,yw,CA,CB,rfl⟩:=cz;(conv=>whnf);skip;refine bD rfl mixed [0,2,6,8] [] (fun m r h=>∃ (t:Nat) (due:Bool) (Q:List Wy) (fv:AV) (fh:af) (ov:AV) (oh:af) (ext:fW) (hC:af),r=[(0,[],.ai (kW E (.omap tb) cv)),(2,[],.int .i64 aO),(6,[],.ba rb 0),(8,[],.ba k 0)]/\h=(rb,.vec pJ)::(tb,eB (mV++ext))::(k,.vec (cm (iL E x) fv ov due))::(fh++(oh++(hX++(hY++hC))))/\m=66 - t/\AN (fO E x) t due Q/\Out 4 al ((aW (fO E x)).take t) fv fh/\fj Q ov oh/\(∀ p∈ext,x.n+1<=p.1.n)/\ef E c (x.n+1) (mV++ext) hC) ?_ ?_
  ·(conv=>whnf);refine ⟨_,_,ah.perm WG,_,t0,IM,Q0,IP,IQ,Ay,Az,[],qK,rfl,?_,rfl,yw,CA,CB,(fun p hp=>by cases hp),by rw [List.append_nil];exact hB⟩;rw [List.append_nil];simp;rw [oV]
  clear yw CA CB hB;rintro m r h' ⟨t,due,Q,fv,fh,ov,oh,ext,hC,rfl,rfl,rfl,aV,jG,dB,fP,iu⟩;have gf:=aV.ok.le;have rJ:=jG;have hlen:((aW (fO E x)).take t).length=t:=by rw [List.length_take];omega
  have R4:(((aW (fO E x)).take t).map al).length=t:=by rw [List.length_map];exact hlen
  have UQ:=aV.asked;rcases jG with ⟨hF,rfl,rfl⟩|⟨q,rfl,rfl⟩
  ·have IS:t=0:=by rw [hF] at hlen;exact hlen.symm
   have IT:due=false:=by
    cases due with
    | false=>rfl
    | true=>have:=aV.ok.pos rfl;omega
   subst IT;have nS:t<=aO:=(by omega);(conv=>whnf);repeat ((refine ⟨_,_,.tail _ (.tail _ (.head _)),rfl,?_⟩);conv=>whnf)
   refine cT (by simp) ?_;(conv=>whnf);repeat ((refine ⟨_,_,.tail _ (.tail _ (.head _)),rfl,?_⟩);conv=>whnf)
   refine cF rfl ?_;cases hQ:Q with
   | nil=>
     subst hQ;have dI:bW E x aO=.aB [.agg pJ,.bool false]:=by unfold bW;rw [lZ,vh aV.ok.empty nS]
     obtain ⟨rP,dN,eS⟩:=fin _ _ _ _ _ _ _ _ _ aV rJ dB fP iu;rcases dB with ⟨_,rfl,rfl⟩|⟨ob,pr,rfl,rfl⟩
     all_goals
      (conv=>whnf);repeat ((refine ⟨_,_,.tail _ (.tail _ (.head _)),rfl,?_⟩);conv=>whnf)
      refine cT rfl ?_;(conv=>whnf);repeat ((first|(refine ⟨_,_,.here _,aI,?_⟩)|refine ⟨_,_,.head _,rfl,?_⟩);conv=>whnf)
      refine ⟨pL,lJ,?_⟩;rw [<- oV];exact ⟨dI.symm,ext,_,fP,dN,jR ext,rb,_,List.Perm.cons _ (List.Perm.cons _ eS)⟩
   | cons z Q'=>
     rcases dB with ⟨h0,rfl,rfl⟩|⟨ob,pr,rfl,rfl⟩
     ·rw [hQ] at h0;cases h0
     subst hQ;obtain ⟨eC,fM⟩:=aV.ok.pop;have cd:=take_one eC;have dG:=aV.bB;have vj:(z::Q').length=Q'.length+1:=rfl;have wO:((aW (fO E x)).take t).length<=65:=(by omega);(conv=>whnf);repeat ((refine ⟨_,_,.tail _ (.tail _ (.head _)),rfl,?_⟩);conv=>whnf)
     refine cF (decide_eq_false (by omega)) ?_;(conv=>whnf);repeat ((first|(refine ⟨_,_,.tail _ (.tail _ (.head _)),rfl,?_⟩)|(refine ⟨0,ag ⟨rfl,by omega⟩,?_⟩)|(refine oN (i:=0) dA (.tail _ (.tail _ (.tail _ (.head _)))) rfl rfl ?_)|refine And.intro (by show aJ (aH Tryz.f60 _) _=true;decide +kernel) ?_);conv=>whnf)
     first|refine ⟨Nat.le_of_ble_eq_true rfl,fun q'=>?_⟩|refine ⟨(by simp;unfold aN;omega),fun q'=>⟨_,.there (.there (.there (.here _))),?_⟩⟩
     (conv=>whnf);repeat ((first|refine ⟨ag ⟨by omega,by omega⟩,?_⟩|(refine ⟨_,_,.there (.there (.there (.here _))),aI,?_⟩)|(refine ⟨_,_,.tail _ (.tail _ (.tail _ (.head _))),rfl,?_⟩));conv=>whnf)
     have e1:pr.length+Int.toNat 1*4=(pr++al z).length:=by rw [List.length_append];rfl
     have e2:(((z::Q').length:Nat):Int).toNat - Int.toNat 1=Q'.length:=by rw [Int.toNat_natCast];rfl
     have e3:pr++((z::Q').map al).flatten=(pr++al z)++(Q'.map al).flatten:=(by simp);have im:Q'.length+(if true=true then 1 else 0)<=60000:=by simp at dG ⊢;omega
     rw [e1,e2,e3]
     first
      | exact ⟨_,_,ah.refl _ _,_,(by omega),t+1,true,Q',_,[(q',.tok)],_,[(ob,_)],ext,hC,rfl,rfl,rfl,⟨fM,im,by omega⟩,.inr ⟨q',by rw [cd,List.map_append];rfl,rfl⟩,.inr ⟨ob,pr++al z,rfl,rfl⟩,fP,iu⟩
      | exact ⟨_,_,ah.perm (List.perm_middle (l₁:=[_,_,_])).symm,_,(by omega),t+1,true,Q',_,[(q',.tok)],_,[(ob,_)],ext,hC,rfl,rfl,rfl,⟨fM,im,by omega⟩,.inr ⟨q',by rw [cd,hF];rfl,rfl⟩,.inr ⟨ob,pr++al z,rfl,rfl⟩,fP,iu⟩
  (conv=>whnf);repeat ((refine ⟨_,_,.tail _ (.tail _ (.head _)),rfl,?_⟩);conv=>whnf)
  refine ⟨fun hz=>?_,fun hz=>?_⟩<;>simp at hz
  ·have nS:t<=aO:=(by omega);cases due with
   | false=>
     (conv=>whnf);repeat ((refine ⟨_,_,.tail _ (.tail _ (.head _)),rfl,?_⟩);conv=>whnf)
     refine cF rfl ?_;cases hQ:Q with
     | nil=>
       subst hQ;have dI:bW E x aO=.aB [.agg pJ,.bool false]:=by unfold bW;rw [lZ,vh aV.ok.empty nS]
       obtain ⟨rP,dN,eS⟩:=fin _ _ _ _ _ _ _ _ _ aV rJ dB fP iu;rcases dB with ⟨_,rfl,rfl⟩|⟨ob,pr,rfl,rfl⟩
       all_goals
        (conv=>whnf);repeat ((refine ⟨_,_,.tail _ (.tail _ (.head _)),rfl,?_⟩);conv=>whnf)
        refine cT rfl ?_;(conv=>whnf);repeat ((first|(refine ⟨_,_,.here _,aI,?_⟩)|refine ⟨_,_,.head _,rfl,?_⟩);conv=>whnf)
        refine ⟨pL,lJ,?_⟩;rw [<- oV];exact ⟨dI.symm,ext,_,fP,dN,jR ext,rb,_,List.Perm.cons _ (List.Perm.cons _ eS)⟩
     | cons z Q'=>
       rcases dB with ⟨h0,rfl,rfl⟩|⟨ob,pr,rfl,rfl⟩
       ·rw [hQ] at h0;cases h0
       subst hQ;obtain ⟨eC,fM⟩:=aV.ok.pop;have cd:=take_one eC;have dG:=aV.bB;have vj:(z::Q').length=Q'.length+1:=rfl;have wO:((aW (fO E x)).take t).length<=65:=(by omega);(conv=>whnf);repeat ((refine ⟨_,_,.tail _ (.tail _ (.head _)),rfl,?_⟩);conv=>whnf)
       refine cF (decide_eq_false (by omega)) ?_;(conv=>whnf);repeat ((first|(refine ⟨_,_,.tail _ (.tail _ (.head _)),rfl,?_⟩)|(refine ⟨0,ag ⟨rfl,by omega⟩,?_⟩)|(refine oN (i:=0) dA (.tail _ (.tail _ (.tail _ (.tail _ (.head _))))) rfl rfl ?_)|refine And.intro (by show aJ (aH Tryz.f60 _) _=true;decide +kernel) ?_);conv=>whnf)
       first|refine ⟨Nat.le_of_ble_eq_true rfl,fun q'=>?_⟩|refine ⟨(by simp;unfold aN;omega),fun q'=>⟨_,.there (.there (.there (.here _))),?_⟩⟩
       (conv=>whnf);repeat ((first|refine ⟨ag ⟨by omega,by omega⟩,?_⟩|(refine ⟨_,_,.there (.there (.here _)),aI,?_⟩)|(refine ⟨_,_,.tail _ (.tail _ (.head _)),rfl,?_⟩));conv=>whnf)
       have e1:pr.length+Int.toNat 1*4=(pr++al z).length:=by rw [List.length_append];rfl
       have e2:(((z::Q').length:Nat):Int).toNat - Int.toNat 1=Q'.length:=by rw [Int.toNat_natCast];rfl
       have e3:pr++((z::Q').map al).flatten=(pr++al z)++(Q'.map al).flatten:=(by simp);have im:Q'.length+(if true=true then 1 else 0)<=60000:=by simp at dG ⊢;omega
       rw [e1,e2,e3]
       first
        | exact ⟨_,_,ah.refl _ _,_,(by omega),t+1,true,Q',_,[(q',.tok)],_,[(ob,_)],ext,hC,rfl,rfl,rfl,⟨fM,im,by omega⟩,.inr ⟨q',by rw [cd,List.map_append];rfl,rfl⟩,.inr ⟨ob,pr++al z,rfl,rfl⟩,fP,iu⟩
        | exact ⟨_,_,ah.perm (List.perm_middle (l₁:=[_,_,_])).symm,_,(by omega),t+1,true,Q',_,[(q',.tok)],_,[(ob,_)],ext,hC,rfl,rfl,rfl,⟨fM,im,by omega⟩,.inr ⟨q',by rw [cd,hF];rfl,rfl⟩,.inr ⟨ob,pr++al z,rfl,rfl⟩,fP,iu⟩
   | true=>
     obtain ⟨y,hy⟩:=aV.ok.last;have UR:=aV.ok.pos rfl;have Cm:=Ck hy;have Fw:((aW (fO E x)).take t)[t - 1]?=some y:=by rw [List.getElem?_take_of_lt (by omega)];exact hy
     obtain ⟨_,cl,bq,bJ⟩:=mG hy;have WI:=(List.getElem?_eq_some_iff.1 bq).1;rw [zh] at WI;have lL:y.aR<=40000:=(by omega);by_cases Jx:y.aR=0
     ·have dw:(pH E x)[y.aO+1]?=none:=by
       unfold pH;split<;>simp
      have aV:AN (fO E x) t false Q:=⟨aV.ok.skip hy (by rw [Jx];exact zi E x) dw,by have:=aV.bB;simp at this ⊢;omega,aV.asked⟩;(conv=>whnf);repeat ((refine ⟨_,_,.tail _ (.tail _ (.head _)),rfl,?_⟩);conv=>whnf)
      refine cT rfl ?_;(conv=>whnf);repeat ((first|refine ⟨ag ⟨by omega,by omega⟩,?_⟩|(refine ⟨_,_,.there (.there (.here _)),aI,?_⟩)|(refine ⟨_,_,.tail _ (.tail _ (.head _)),rfl,?_⟩)|(refine cp (t - 1) (by omega) Fw ?_)|refine ⟨_,_,bj.here _,?_⟩|refine ⟨_,_,.here _,aI,?_⟩|refine And.intro (by show aJ (aH Tryz.f60 _) _=true;decide +kernel) ?_|intro (nb:Nat));conv=>whnf)
      refine cF (decide_eq_false (by omega)) ?_;cases hQ:Q with
      | nil=>
        subst hQ;have dI:bW E x aO=.aB [.agg pJ,.bool false]:=by unfold bW;rw [lZ,vh aV.ok.empty nS]
        obtain ⟨rP,dN,eS⟩:=fin _ _ _ _ _ _ _ _ _ aV rJ dB fP iu;rcases dB with ⟨_,rfl,rfl⟩|⟨ob,pr,rfl,rfl⟩
        all_goals
         (conv=>whnf);repeat ((refine ⟨_,_,.tail _ (.tail _ (.head _)),rfl,?_⟩);conv=>whnf)
         refine cT rfl ?_;(conv=>whnf);repeat ((first|(refine ⟨_,_,.here _,aI,?_⟩)|refine ⟨_,_,.head _,rfl,?_⟩);conv=>whnf)
         refine ⟨pL,lJ,?_⟩;rw [<- oV];exact ⟨dI.symm,ext,_,fP,dN,jR ext,rb,_,List.Perm.cons _ (List.Perm.cons _ eS)⟩
      | cons z Q'=>
        rcases dB with ⟨h0,rfl,rfl⟩|⟨ob,pr,rfl,rfl⟩
        ·rw [hQ] at h0;cases h0
        subst hQ;obtain ⟨eC,fM⟩:=aV.ok.pop;have cd:=take_one eC;have dG:=aV.bB;have vj:(z::Q').length=Q'.length+1:=rfl;have wO:((aW (fO E x)).take t).length<=65:=(by omega);(conv=>whnf);repeat ((refine ⟨_,_,.tail _ (.tail _ (.head _)),rfl,?_⟩);conv=>whnf)
        refine cF (decide_eq_false (by omega)) ?_;(conv=>whnf);repeat ((first|(refine ⟨_,_,.tail _ (.tail _ (.head _)),rfl,?_⟩)|(refine ⟨0,ag ⟨rfl,by omega⟩,?_⟩)|(refine oN (i:=0) dA (.tail _ (.tail _ (.tail _ (.tail _ (.head _))))) rfl rfl ?_)|refine And.intro (by show aJ (aH Tryz.f60 _) _=true;decide +kernel) ?_);conv=>whnf)
        first|refine ⟨Nat.le_of_ble_eq_true rfl,fun q'=>?_⟩|refine ⟨(by simp;unfold aN;omega),fun q'=>⟨_,.there (.there (.there (.here _))),?_⟩⟩
        (conv=>whnf);repeat ((first|refine ⟨ag ⟨by omega,by omega⟩,?_⟩|(refine ⟨_,_,.there (.there (.here _)),aI,?_⟩)|(refine ⟨_,_,.tail _ (.tail _ (.head _)),rfl,?_⟩));conv=>whnf)
        have e1:pr.length+Int.toNat 1*4=(pr++al z).length:=by rw [List.length_append];rfl
        have e2:(((z::Q').length:Nat):Int).toNat - Int.toNat 1=Q'.length:=by rw [Int.toNat_natCast];rfl
        have e3:pr++((z::Q').map al).flatten=(pr++al z)++(Q'.map al).flatten:=(by simp);have im:Q'.length+(if true=true then 1 else 0)<=60000:=by simp at dG ⊢;omega
        rw [e1,e2,e3]
        first
         | exact ⟨_,_,ah.refl _ _,_,(by omega),t+1,true,Q',_,[(q',.tok)],_,[(ob,_)],ext,hC,rfl,rfl,rfl,⟨fM,im,by omega⟩,.inr ⟨q',by rw [cd,List.map_append];rfl,rfl⟩,.inr ⟨ob,pr++al z,rfl,rfl⟩,fP,iu⟩
         | exact ⟨_,_,ah.perm (List.perm_middle (l₁:=[_,_,_])).symm,_,(by omega),t+1,true,Q',_,[(q',.tok)],_,[(ob,_)],ext,hC,rfl,rfl,rfl,⟨fM,im,by omega⟩,.inr ⟨q',by rw [cd,hF];rfl,rfl⟩,.inr ⟨ob,pr++al z,rfl,rfl⟩,fP,iu⟩
     obtain ⟨mv,fD⟩:=aF (l:=di E x) (i:=y.aR - 1) (by omega);have pK:=bI mv (List.mem_of_getElem? fD);have cz:=pK.next;have vH:=pK.cost;have zk:=AM fD;rw [show y.aR - 1+1=y.aR by omega] at zk;(conv=>whnf);repeat ((refine ⟨_,_,.tail _ (.tail _ (.head _)),rfl,?_⟩);conv=>whnf)
     refine cT rfl ?_;(conv=>whnf);repeat ((first|refine ⟨ag ⟨by omega,by omega⟩,?_⟩|(refine ⟨_,_,.there (.there (.here _)),aI,?_⟩)|(refine ⟨_,_,.tail _ (.tail _ (.head _)),rfl,?_⟩)|(refine cp (t - 1) (by omega) Fw ?_)|refine ⟨_,_,bj.here _,?_⟩|refine ⟨_,_,.here _,aI,?_⟩|refine And.intro (by show aJ (aH Tryz.f60 _) _=true;decide +kernel) ?_|intro (nb:Nat));conv=>whnf)
     refine cT (decide_eq_true (by omega)) ?_;have pC:=qB (IH mv.to pK.to cz) (nb:=tb) (cv:=cv) (es:=mV++ext) (c:=c) (hB:=hC) (aO:=y.aO+1) (by rw [cz];exact iu) (by omega) [(rb,.vec pJ)] ((k,.vec (cm (iL E x) (.sl 4 (some q) (((aW (fO E x)).take t).map al)) ov false))::(q,.tok)::(oh++(hX++hY)));simp only [List.append_assoc,List.cons_append] at pC;(conv=>whnf);repeat ((first|refine ⟨ag ⟨by omega,by omega⟩,?_⟩|(refine ⟨_,_,.tail _ (.tail _ (.head _)),rfl,?_⟩)|(refine cp (enc:=vD) (y.aR - 1) (by omega) fD ?_)|(refine aw.mono ?_ pC)|refine ⟨_,_,bj.here _,?_⟩|refine ⟨_,_,.here _,aI,?_⟩|refine And.intro (by show aJ (aH Tryz.f60 _) _=true;decide +kernel) ?_|intro (nb:Nat));conv=>whnf)
     rintro v h1 ⟨rfl,gZ,vJ,ik,dN,rfl⟩;rw [cz] at dN ik
     have xl:∀ p∈ext++gZ,x.n+1<=p.1.n:=by
      intro p hp;rcases List.mem_append.1 hp with h|h
      ·exact fP p h
      exact ik p h
     have pD:((eA E mv.to).map fun w=>w.cost+(mv.cost*16+1))[y.aO+1]?=((eA E mv.to)[y.aO+1]?).map fun w=>w.cost+(mv.cost*16+1):=List.getElem?_map;have dG:=aV.bB;have US:Q.length+1<=60000:=(by simpa using dG);obtain ⟨zl,Pv⟩:∃ e,e=ext++gZ:=⟨_,rfl⟩;rw [<- Pv] at xl dN;rw [<- Pv];have fP:=xl;have iu:=dN;obtain ⟨ext,rfl⟩:∃ e,e=zl:=⟨_,rfl⟩;obtain ⟨hC,rfl⟩:∃ e,e=vJ:=⟨_,rfl⟩;cases hw:(eA E mv.to)[y.aO+1]? with
     | none=>
       have dI:bW E mv.to (y.aO+1)=.aB [.agg pJ,.bool false]:=by unfold bW;rw [hw]
       rw [hw] at pD;rw [dI];have aV:AN (fO E x) t false Q:=⟨aV.ok.skip hy zk pD,by simp;omega,aV.asked⟩;(conv=>whnf);repeat ((first|refine ⟨_,_,bj.here _,⟨Nat.le_of_ble_eq_true rfl,rfl⟩,?_⟩|intro (nb:Nat));conv=>whnf)
       refine cF rfl ?_;cases hQ:Q with
       | nil=>
         subst hQ;have dI:bW E x aO=.aB [.agg pJ,.bool false]:=by unfold bW;rw [lZ,vh aV.ok.empty nS]
         obtain ⟨rP,dN,eS⟩:=fin _ _ _ _ _ _ _ _ _ aV rJ dB fP iu;rcases dB with ⟨_,rfl,rfl⟩|⟨ob,pr,rfl,rfl⟩
         all_goals
          (conv=>whnf);repeat ((refine ⟨_,_,.tail _ (.tail _ (.head _)),rfl,?_⟩);conv=>whnf)
          refine cT rfl ?_;(conv=>whnf);repeat ((first|(refine ⟨_,_,.here _,aI,?_⟩)|refine ⟨_,_,.head _,rfl,?_⟩);conv=>whnf)
          refine ⟨pL,lJ,?_⟩;rw [<- oV];exact ⟨dI.symm,ext,_,fP,dN,jR ext,rb,_,List.Perm.cons _ (List.Perm.cons _ eS)⟩
       | cons z Q'=>
         rcases dB with ⟨h0,rfl,rfl⟩|⟨ob,pr,rfl,rfl⟩
         ·rw [hQ] at h0;cases h0
         subst hQ;obtain ⟨eC,fM⟩:=aV.ok.pop;have cd:=take_one eC;have dG:=aV.bB;have vj:(z::Q').length=Q'.length+1:=rfl;have wO:((aW (fO E x)).take t).length<=65:=(by omega);(conv=>whnf);repeat ((refine ⟨_,_,.tail _ (.tail _ (.head _)),rfl,?_⟩);conv=>whnf)
         refine cF (decide_eq_false (by omega)) ?_;(conv=>whnf);repeat ((first|(refine ⟨_,_,.tail _ (.tail _ (.head _)),rfl,?_⟩)|(refine ⟨0,ag ⟨rfl,by omega⟩,?_⟩)|(refine oN (i:=0) dA (.tail _ (.tail _ (.tail _ (.tail _ (.head _))))) rfl rfl ?_)|refine And.intro (by show aJ (aH Tryz.f60 _) _=true;decide +kernel) ?_);conv=>whnf)
         first|refine ⟨Nat.le_of_ble_eq_true rfl,fun q'=>?_⟩|refine ⟨(by simp;unfold aN;omega),fun q'=>⟨_,.there (.there (.there (.here _))),?_⟩⟩
         (conv=>whnf);repeat ((first|refine ⟨ag ⟨by omega,by omega⟩,?_⟩|(refine ⟨_,_,.there (.there (.here _)),aI,?_⟩)|(refine ⟨_,_,.tail _ (.tail _ (.head _)),rfl,?_⟩));conv=>whnf)
         have e1:pr.length+Int.toNat 1*4=(pr++al z).length:=by rw [List.length_append];rfl
         have e2:(((z::Q').length:Nat):Int).toNat - Int.toNat 1=Q'.length:=by rw [Int.toNat_natCast];rfl
         have e3:pr++((z::Q').map al).flatten=(pr++al z)++(Q'.map al).flatten:=(by simp);have im:Q'.length+(if true=true then 1 else 0)<=60000:=by simp at dG ⊢;omega
         rw [e1,e2,e3]
         first
          | exact ⟨_,_,ah.refl _ _,_,(by omega),t+1,true,Q',_,[(q',.tok)],_,[(ob,_)],ext,hC,rfl,rfl,rfl,⟨fM,im,by omega⟩,.inr ⟨q',by rw [cd,List.map_append];rfl,rfl⟩,.inr ⟨ob,pr++al z,rfl,rfl⟩,fP,iu⟩
          | exact ⟨_,_,ah.perm (List.perm_middle (l₁:=[_,_,_])).symm,_,(by omega),t+1,true,Q',_,[(q',.tok)],_,[(ob,_)],ext,hC,rfl,rfl,rfl,⟨fM,im,by omega⟩,.inr ⟨q',by rw [cd,hF];rfl,rfl⟩,.inr ⟨ob,pr++al z,rfl,rfl⟩,fP,iu⟩
     | some w=>
       have dI:bW E mv.to (y.aO+1)=.aB [.agg (al w),.bool true]:=by unfold bW;rw [hw]
       rw [hw] at pD;have CD:=Dj hE _ mv.to pK.to rfl w (List.mem_of_getElem? hw);have hd:(12 - mv.to.n).toNat<=11:=(by omega);rw [dI];(conv=>whnf);repeat ((first|refine ⟨_,_,bj.here _,⟨Nat.le_of_ble_eq_true rfl,rfl⟩,?_⟩|intro (nb:Nat));conv=>whnf)
       refine cT rfl ?_;have kN:=oO (x:=⟨w.cost+(mv.cost*16+1),y.aR,y.aO+1⟩) aV.ok.sorted (nk:=k) (mv:=iL E x) (fv:=.sl 4 (some q) (((aW (fO E x)).take t).map al)) (due:=false) dB (by omega) [(rb,.vec pJ),(tb,eB (mV++ext))] [(q,.tok)] (hX++(hY++hC));rw [WE _ _ _ _ CD.1 (by omega)] at kN;(conv=>whnf);repeat ((first|refine ⟨ag ⟨by omega,by omega⟩,?_⟩|(refine aw.mono ?_ kN)|refine And.intro (by show aJ (aH Tryz.f60 _) _=true;decide +kernel) ?_);conv=>whnf)
       have fM:AN (fO E x) t false (iF ⟨w.cost+(mv.cost*16+1),y.aR,y.aO+1⟩ Q):=⟨aV.ok.push hy zk pD,by rw [wL];simp;omega,aV.asked⟩;clear aV dB;rintro v h1 ⟨rfl,ov,oh,dB,rfl⟩;obtain ⟨Q,IW⟩:∃ Q',Q'=iF ⟨w.cost+(mv.cost*16+1),y.aR,y.aO+1⟩ Q:=⟨_,rfl⟩;rw [<- IW] at dB fM;have aV:=fM;(conv=>whnf);repeat ((refine ⟨_,_,.tail _ (.tail _ (.head _)),rfl,?_⟩);conv=>whnf)
       cases hQ:Q with
       | nil=>
         subst hQ;have dI:bW E x aO=.aB [.agg pJ,.bool false]:=by unfold bW;rw [lZ,vh aV.ok.empty nS]
         obtain ⟨rP,dN,eS⟩:=fin _ _ _ _ _ _ _ _ _ aV rJ dB fP iu;rcases dB with ⟨_,rfl,rfl⟩|⟨ob,pr,rfl,rfl⟩
         all_goals
          (conv=>whnf);skip;refine cT rfl ?_;(conv=>whnf);repeat ((first|(refine ⟨_,_,.here _,aI,?_⟩)|refine ⟨_,_,.head _,rfl,?_⟩);conv=>whnf)
          refine ⟨pL,lJ,?_⟩;rw [<- oV];exact ⟨dI.symm,ext,_,fP,dN,jR ext,rb,_,List.Perm.cons _ (List.Perm.cons _ eS)⟩
       | cons z Q'=>
         rcases dB with ⟨h0,rfl,rfl⟩|⟨ob,pr,rfl,rfl⟩
         ·rw [hQ] at h0;cases h0
         subst hQ;obtain ⟨eC,fM⟩:=aV.ok.pop;have cd:=take_one eC;have dG:=aV.bB;have vj:(z::Q').length=Q'.length+1:=rfl;have wO:((aW (fO E x)).take t).length<=65:=(by omega);(conv=>whnf);skip;refine cF (decide_eq_false (by omega)) ?_;(conv=>whnf);repeat ((first|(refine ⟨_,_,.tail _ (.tail _ (.head _)),rfl,?_⟩)|(refine ⟨0,ag ⟨rfl,by omega⟩,?_⟩)|(refine oN (i:=0) dA (.tail _ (.tail _ (.tail _ (.tail _ (.head _))))) rfl rfl ?_)|refine And.intro (by show aJ (aH Tryz.f60 _) _=true;decide +kernel) ?_);conv=>whnf)
         first|refine ⟨Nat.le_of_ble_eq_true rfl,fun q'=>?_⟩|refine ⟨(by simp;unfold aN;omega),fun q'=>⟨_,.there (.there (.there (.here _))),?_⟩⟩
         (conv=>whnf);repeat ((first|refine ⟨ag ⟨by omega,by omega⟩,?_⟩|(refine ⟨_,_,.there (.there (.here _)),aI,?_⟩)|(refine ⟨_,_,.tail _ (.tail _ (.head _)),rfl,?_⟩));conv=>whnf)
         have e1:pr.length+Int.toNat 1*4=(pr++al z).length:=by rw [List.length_append];rfl
         have e2:(((z::Q').length:Nat):Int).toNat - Int.toNat 1=Q'.length:=by rw [Int.toNat_natCast];rfl
         have e3:pr++((z::Q').map al).flatten=(pr++al z)++(Q'.map al).flatten:=(by simp);have im:Q'.length+(if true=true then 1 else 0)<=60000:=by simp at dG ⊢;omega
         rw [e1,e2,e3]
         first
          | exact ⟨_,_,ah.refl _ _,_,(by omega),t+1,true,Q',_,[(q',.tok)],_,[(ob,_)],ext,hC,rfl,rfl,rfl,⟨fM,im,by omega⟩,.inr ⟨q',by rw [cd,List.map_append];rfl,rfl⟩,.inr ⟨ob,pr++al z,rfl,rfl⟩,fP,iu⟩
          | exact ⟨_,_,ah.perm (List.perm_middle (l₁:=[_,_,_])).symm,_,(by omega),t+1,true,Q',_,[(q',.tok)],_,[(ob,_)],ext,hC,rfl,rfl,rfl,⟨fM,im,by omega⟩,.inr ⟨q',by rw [cd,hF];rfl,rfl⟩,.inr ⟨ob,pr++al z,rfl,rfl⟩,fP,iu⟩
  obtain ⟨w,hw⟩:=aF (l:=(aW (fO E x)).take t) (i:=aO) (by omega);have oP:=hw;rw [List.getElem?_take_of_lt (by omega)] at oP;obtain ⟨rP,dN,eS⟩:=fin _ _ _ _ _ _ _ _ _ aV rJ dB fP iu;(conv=>whnf);repeat ((first|refine ix (by assumption) ?_|(refine ⟨_,_,.tail _ (.tail _ (.head _)),rfl,?_⟩)|(refine ⟨_,_,.here _,aI,?_⟩)|refine ⟨_,_,.head _,rfl,?_⟩);conv=>whnf)
  refine ⟨pL,lJ,?_⟩;rw [<- oV];refine ⟨?_,ext,_,fP,dN,jR ext,rb,_,List.Perm.cons _ (List.Perm.cons _ eS)⟩;unfold bW;rw [lZ,oP];rfl
 rintro v h1 ⟨hv,ext,aX,he,jm,gD,rb,o,eS⟩;refine ⟨v,_,⟨hv,ext,aX,he,jm,gD,rfl⟩,aa.refl _,fun k o hm=>eS.mem_iff.2 (List.mem_cons_of_mem _ hm),fun hn=>?_⟩;have:=((eS.map (fun p:Nat × Ob=>p.1)).nodup_iff).1 hn;exact (List.nodup_cons.1 this).2
end Go.Abs.Wall.Spl
