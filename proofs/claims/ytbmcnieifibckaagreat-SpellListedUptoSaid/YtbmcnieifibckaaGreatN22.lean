/- What is proved: small laws for the walks of this seat, and contracts of its functions. No condition but those each theorem names. -/
import Derived.Test.YtbmcnieifibckaaGreatN21
import Derived.Test.YtbmcnieifibckaaGreatN15
set_option maxRecDepth 100000
set_option maxHeartbeats 2000000
set_option linter.unusedVariables false
set_option linter.unusedSimpArgs false
namespace Go.Abs.Wall.Spl
open Go Go.Abs Go.Proofs Go.Abs.Wall
open Go.Abs.Wall.Lst hiding al gL lq jg gk da lr kd lu lx ly lz lA ef lB cg lC oY qT bW jE og mD oZ getAll
def uX (x:br):AV:=.agg (km x)
def IT (k:Nat):AV:=.bn k 0
def ea (es:fI):Ob:=.map (po uX IT es)
theorem IU (a b:br):ju Tryz.prog 114 (uX a) (uX b)=some (decide (a=b)):=by obtain ⟨a1,a2,a3,a4⟩:=a;obtain ⟨b1,b2,b3,b4⟩:=b;have h:ju Tryz.prog 114 (uX ⟨a1,a2,a3,a4⟩) (uX ⟨b1,b2,b3,b4⟩)=some (decide (a1=b1)&&(decide (a2=b2)&&(decide (a3=b3)&&(decide (a4=b4)&&true)))):=(by first|rfl|kernel_rfl);rw [h];congr 1;rw [Bool.eq_iff_iff];simp
theorem OF:pQ Tryz.prog 114=true:=by decide +kernel
theorem IV {es:fI} {x:br} {b:Nat} {h:ab} {g:G} {K:AV->Prop} (hm:(b,ea es)∈h)
  (hk:K (rC true (((dF x es).map IT).getD .jV) (dF x es).isSome)) :
  ∃ es v f,(b,Ob.map es)∈h/\gP g (rB Tryz.prog 114 (uX x)/\xj Tryz.prog 114 (uX x) es .jV=some (v,f))/\K (rC true v f):=
 ⟨_,_,_,hm,af ⟨IW IU OF x,OG IU x es _⟩,hk⟩
def pq:List AV:=[.int .i64 0,.int .i64 0,.int .i64 0,.int .i64 0]
def bW (E:Env) (x:br) (aO:Nat):AV:=match (df E x)[aO]? with
 | some w=>.aQ [.agg (al w),.bool true]
 | none=>.aQ [.agg pq,.bool false]
def jE (E:Env) (x:br):Prop:=∀ (nb:Nat) (cv:AV) (es:fI) (c:Nat) (hp:ab) (aO:Nat),dQ E c x.n es hp->aO<=64 ->
 ay Tryz.prog 105 [.au (kG E (.omap nb) cv),.agg (km x),.int .i64 aO] ((nb,ea es)::hp)
  (fun v h'=>v=bW E x aO/\∃ ext aZ,(∀ p∈ext,x.n<=p.1.n)/\dQ E c x.n (es++ext) aZ/\(dF x (es++ext)).isSome=true/\h'=(nb,ea (es++ext))::aZ)
def EV (E:Env) (x:br):Prop:=∀ (nb:Nat) (cv:AV) (es:fI) (c:Nat) (hp:ab),dQ E c x.n es hp ->
 ay Tryz.prog 106 [.au (kG E (.omap nb) cv),.agg (km x)] ((nb,ea es)::hp)
  (fun v h'=>∃ k ext aZ,v=.bn k 0/\dF x (es++ext)=some k/\(∀ p∈ext,x.n<=p.1.n)/\dQ E c x.n (es++ext) aZ/\h'=(nb,ea (es++ext))::aZ)
theorem OH {A B D:ab} {m:Nat × Ob}:(m::D++(A++B)).Perm (A++m::(B++D)):=by refine List.Perm.trans ?_ List.perm_middle.symm;refine List.Perm.cons _ ?_;rw [<- List.append_assoc];exact List.perm_append_comm
theorem _root_.Go.Abs.Wall.Spl.dQ.more {E:Env}:∀ {c:Nat} {d:Int} {es:fI} {hp:ab} {ext:fI},dQ E c d es hp->(∀ p∈ext,p.1.n<d)->dQ E c d (es++ext) hp
 | _,_,_,_,ext,.done h,_=>.done h
 | _,_,_,_,ext,.step hA hB,he=>.step (hA.more fun p hp=>by have:=he p hp;omega) (hB.more fun p hp=>by have:=he p hp;omega)
theorem og {E:Env} {y:br} (IH:jE E y) {nb:Nat} {cv:AV} {es:fI} {c:Nat} {hB:ab} {aO:Nat} (hn:dQ E c y.n es hB) (hr:aO<=64) (A B:ab) :
  ay Tryz.prog 105 [.au (kG E (.omap nb) cv),.agg (km y),.int .i64 aO] (A++(nb,ea es)::(B++hB))
   (fun v H'=>v=bW E y aO/\∃ ext wy,(∀ p∈ext,y.n<=p.1.n)/\dQ E c y.n (es++ext) wy/\H'=A++(nb,ea (es++ext))::(B++wy)):=by
 refine ay.re (IH nb cv es c hB aO hn hr) (h2:=A++B) OH ?_;rintro v h1 ⟨hv,ext,aZ,he,jj,_,rfl⟩;exact ⟨_,OH,hv,ext,aZ,he,jj,rfl⟩
theorem mD {x:Wy} {Q:List Wy} (hs:Q.Pairwise cW) {nk:Nat} {mv fv:AV} {due:Bool} {ov:AV} {oh:ab} (ho:ef Q ov oh) (hl:Q.length<=65536) (A B C:ab) :
  ay Tryz.prog 164 [.bn nk 2,.agg (al x)] (A++(nk,.vec (cg mv fv ov due))::(B++(oh++C)))
   (fun v H'=>v=.aQ []/\∃ iq iu,ef (il x Q) iq iu/\H'=A++(nk,.vec (cg mv fv iq due))::(B++(iu++C))):=by
 have key:∀ (o:Nat × Ob) (oh:ab),(o::oh++(A++(B++C))).Perm (A++o::(B++(oh++C))):=by intro o oh;refine List.Perm.trans ?_ List.perm_middle.symm;exact List.Perm.cons _ MV
 refine ay.re (lC x Q hs nk mv fv due ov oh ho hl) (key _ _) ?_;rintro v h3 ⟨rfl,iq,iu,bD,rfl⟩;exact ⟨_,key _ _,rfl,iq,iu,bD,rfl⟩
def c106:aw:=⟨[0,1,3,4,5,6,7,8,9,10,11,12,13,23,43,54,55,56,57,68],[30],[11,12],[],[(1,[0,1,2,3,4,5,6,7,8,9,10],[]),(5,[0,1,2,3,4,5,6],[]),(14,[0,1,2,3,4,5,6,7,8,9,10,11,12,13,14,15,16],[])],[85]⟩
theorem OI (E:Env) (hE:gO E) (x:br) (hx:gX E x) (IH:∀ y,gX E y->y.n=x.n+1->jE E y):EV E x:=by
 intro nb cv es c hp hN;have IK:=hx.n;cases dz:dF x es with
 | some k=>
   refine ay.post (R:=fun v h'=>v=.bn k 0/\h'=(nb,ea es)::hp) ?_ ?_
   ·refine aG (F:=Tryz.f106) c106 rfl rfl rfl mixed rfl fun X=>?_;(conv=>whnf);repeat ((first|(refine IV (.head _) ?_)|refine And.intro (by show aJ (aH Tryz.f106 _) _=true;decide +kernel) ?_);conv=>whnf)
    rw [dz];refine cT rfl ?_;(conv=>whnf);skip;exact ⟨rfl,rfl⟩
   rintro v h1 ⟨rfl,rfl⟩;exact ⟨_,_,⟨k,[],hp,rfl,by rw [List.append_nil];exact dz,by simp,by rw [List.append_nil];exact hN,by rw [List.append_nil]⟩,ag.refl _,fun _ _ h=>h,fun h=>h⟩
 | none=>
   cases hN with
   | done hd=>omega
   | step hA hB=>
   rename_i c nF wz;have bS:=fun m (hm:m∈dP E x)=>uV hE hx hm;have jb:=OC (x:=x) hE;have dC:=IP hE x;have tN:=VS E (.omap nb) cv x hE hx;have VU:=VN E (.omap nb) cv x hE;refine ay.post (R:=fun v h'=>∃ k ext aZ,v=.bn k 0/\dF x (es++ext)=some k/\(∀ p∈ext,x.n<=p.1.n)/\dQ E (c+1) x.n (es++ext) aZ/\h'.Perm ((nb,ea (es++ext))::aZ)) ?_ ?_
   ·refine aG (F:=Tryz.f106) c106 rfl rfl rfl mixed rfl fun X=>?_;(conv=>whnf);repeat ((first|(refine IV (.head _) ?_)|refine And.intro (by show aJ (aH Tryz.f106 _) _=true;decide +kernel) ?_);conv=>whnf)
    rw [dz];refine cF rfl ?_;(conv=>whnf);repeat ((first|refine ae.k0 (tN) ?_|(intro (nk:Nat))|(refine OJ (ek:=uX) (ev:=IT) (k:=x) (v:=nk) IU OF (.there (.here _)) ?_)|refine ae.k0 (VU) ?_|refine And.intro (by show aJ (aH Tryz.f106 _) _=true;decide +kernel) ?_);conv=>whnf)
    rw [OE dz];have P2:dF x (es++[(x,nk)])=some nk:=by rw [ET,dz];simp [dF]
    have EW:dQ E c (x.n+1) (es++[(x,nk)]) wz:=hB.more (fun p hp=>by rw [List.mem_singleton] at hp;rw [hp];show x.n<x.n+1;omega);refine ⟨fun hq=>?_,fun hq=>?_⟩
    ·have lH:mM E x=[(eU E x).1*16]:=by unfold mM;rw [if_pos hq]
     have su:=mD (x:=⟨(eU E x).1*16,0,0⟩) (Q:=[]) .nil (nk:=nk) (mv:=iC E x) (fv:=.aW) (due:=false) (ov:=.aW) (oh:=[]) (.inl ⟨rfl,rfl,rfl⟩) (by decide) [] [(nb,ea (es++[(x,nk)]))] (nF++wz)
     rw [show al ⟨(eU E x).1*16,0,0⟩=[.int .i64 (eU E x).1,.int .i64 0,.int .i64 (-1),.int .i64 0] by
      unfold al;rw [show (eU E x).1*16 / 16=(eU E x).1 by omega,show (eU E x).1*16 % 16=0 by omega];rfl] at su
     have rX:=Ee (Hl (ez E x)) (uW E x) (c:=(eU E x).1*16) (by rw [lH];rfl);(conv=>whnf);repeat ((refine ay.mono ?_ su);conv=>whnf)
     rintro v h' ⟨rfl,zq,zr,we,rfl⟩;obtain ⟨Q0,OK⟩:∃ Q0,Q0=il ⟨(eU E x).1*16,0,0⟩ []:=⟨_,rfl⟩;have Na:Q0.length<=1:=by rw [OK,vV];exact Nat.le_refl _
     rw [<- OK] at rX we;(conv=>whnf);repeat (refine ⟨_,_,.head _,rfl,?_⟩;conv=>whnf)
     refine cy rfl mixed [0,7,54,55,56] [] (fun m r h=>∃ (i:Nat) (Q:List Wy) (ov:AV) (oh:ab) (ext:fI) (hC:ab),r=[(0,[],.au (kG E (.omap nb) cv)),(7,[],.bn nk 0),(54,[],iC E x),(55,[],.int .i64 ((dP E x).map uT).length),(56,[],.int .i64 i)]/\h=(nk,.vec (cg (iC E x) .aW ov false))::(nb,ea (es++(x,nk)::ext))::(oh++(nF++hC))/\m=(dP E x).length - i/\i<=(dP E x).length/\tw (ez E x) (i+1) Q/\ef Q ov oh/\Q.length<=i+1/\(∀ p∈ext,x.n+1<=p.1.n)/\dQ E c (x.n+1) (es++(x,nk)::ext) hC) ?_ ?_
     ·conv=>whnf
      first
       | exact ⟨_,_,ar.refl _ _,_,0,Q0,zq,zr,[],wz,rfl,rfl,rfl,by omega,rX,we,by omega,(fun p hp=>by cases hp),EW⟩
       | exact ⟨_,_,ar.refl _ _,_,0,[],.aW,[],[],wz,rfl,rfl,rfl,by omega,rX,we,by omega,(fun p hp=>by cases hp),EW⟩
     rintro m r h' ⟨i,Q,ov,oh,ext,hC,rfl,rfl,rfl,hi,pt,ho,hQ,fA,hN⟩;(conv=>whnf);refine ⟨fun aD=>?_,fun aD=>?_⟩<;>simp at aD
     ·obtain ⟨m,hm⟩:=aN aD;have pw:=bS m (List.mem_of_getElem? hm);have bZ:=pw.next;have IS:=pw.cost;have rW:=og (IH m.to pw.to bZ) (nb:=nb) (cv:=cv) (es:=es++(x,nk)::ext) (c:=c) (hB:=hC) (aO:=0) (by rw [bZ];exact hN) (by decide) [(nk,.vec (cg (iC E x) .aW ov false))] (oh++nF);simp only [List.append_assoc] at rW;(conv=>whnf);repeat ((first|refine ix (by assumption) ?_|(intro (b9:Nat))|(refine ay.mono ?_ rW)|refine ⟨_,_,aK.here _,⟨Nat.le_of_ble_eq_true rfl,rfl⟩,?_⟩);conv=>whnf)
      rintro v h' ⟨rfl,gQ,uY,nD,gY,rfl⟩;rw [bZ] at gY;have sw:es++(x,nk)::(ext++gQ)=es++(x,nk)::ext++gQ:=by rw [List.append_assoc];rfl
      have wA:∀ p∈ext++gQ,x.n+1<=p.1.n:=by
       intro p hp;rcases List.mem_append.1 hp with h|h
       ·exact fA p h
       have:=nD p h;omega
      have bw:=zN hm;cases hw:(df E m.to)[0]? with
      | none=>
        have dy:bW E m.to 0=.aQ [.agg pq,.bool false]:=by unfold bW;rw [hw]
        have ym:=Ed pt bw (by rw [List.getElem?_map,hw];rfl);rw [dy];(conv=>whnf);repeat ((first|refine ⟨_,_,aK.here _,⟨Nat.le_of_ble_eq_true rfl,rfl⟩,?_⟩|intro (nb:Nat));conv=>whnf)
        refine cF rfl ?_;(conv=>whnf);repeat (refine ⟨af ⟨by omega,by omega⟩,?_⟩;conv=>whnf)
        refine ⟨_,_,ar.refl _ _,_,(by omega),i+1,Q,ov,oh,ext++gQ,uY,rfl,?_,rfl,by omega,ym,ho,by omega,wA,by rw [sw];simpa using gY⟩;rw [sw];simp
      | some w=>
        have dy:bW E m.to 0=.aQ [.agg (al w),.bool true]:=by unfold bW;rw [hw]
        have xR:=IQ hE _ m.to pw.to rfl w (List.mem_of_getElem? hw);have hd:(12 - m.to.n).toNat<=11:=(by omega);have ym:=Ee pt bw (c:=w.cost+(m.cost*16+1)) (by rw [List.getElem?_map,hw];rfl);have su:=mD (x:=⟨w.cost+(m.cost*16+1),i+1,0⟩) pt.1 (nk:=nk) (mv:=iC E x) (fv:=.aW) (due:=false) ho (by omega) [] [(nb,ea (es++(x,nk)::(ext++gQ)))] (nF++uY)
        rw [show al ⟨w.cost+(m.cost*16+1),i+1,0⟩=[.int .i64 (w.cost / 16+m.cost),.int .i64 (w.cost % 16+1),.int .i64 i,.int .i64 0] by
         unfold al;rw [show (w.cost+(m.cost*16+1)) / 16=w.cost / 16+m.cost by omega,show (w.cost+(m.cost*16+1)) % 16=w.cost % 16+1 by omega,show ((i+1:Nat):Int) - 1=(i:Int) by omega];rfl] at su
        rw [dy];(conv=>whnf);repeat ((first|refine ⟨_,_,aK.here _,⟨Nat.le_of_ble_eq_true rfl,rfl⟩,?_⟩|intro (nb:Nat));conv=>whnf)
        refine cT rfl ?_;(conv=>whnf);repeat ((first|refine ⟨af ⟨by omega,by omega⟩,?_⟩|(refine ay.mono ?_ su)|refine And.intro (by show aJ (aH Tryz.f106 _) _=true;decide +kernel) ?_);conv=>whnf)
        rintro v h' ⟨rfl,IX,IY,cr,rfl⟩;(conv=>whnf);repeat (refine ⟨af ⟨by omega,by omega⟩,?_⟩;conv=>whnf)
        refine ⟨_,_,ar.refl _ _,_,(by omega),i+1,_,IX,IY,ext++gQ,uY,rfl,?_,rfl,by omega,ym,cr,by rw [vV];omega,wA,by rw [sw];simpa using gY⟩;rw [sw];simp
     have cI:i=(dP E x).length:=(by omega);subst cI;rw [<- zM] at pt;have bf:=Hm pt;have bZ:zP E x nk ((nk,.vec (cg (iC E x) .aW ov false))::oh):=⟨0,false,Q,.aW,[],ov,oh,⟨bf,by simp;omega,by omega⟩,.inl ⟨rfl,rfl,rfl⟩,ho,rfl⟩;(conv=>whnf);skip;refine ⟨nk,(x,nk)::ext,(nF++((nk,.vec (cg (iC E x) .aW ov false))::oh))++hC,rfl,?_,?_,?_,?_⟩
     ·rw [ET,dz];simp [dF]
     ·intro p hp;rcases List.mem_cons.1 hp with h|h
      ·rw [h];exact Int.le_refl _
      have:=fA p h;omega
     ·refine .step ?_ hN;have h1:=(hA.snoc (k:=nk) rfl bZ).more (ext:=ext) (fun p hp=>by have:=fA p hp;omega);rw [List.append_assoc] at h1;exact h1
     refine List.Perm.trans (List.Perm.swap _ _ _) (List.Perm.cons _ ?_);have h1:((nk,Ob.vec (cg (iC E x) .aW ov false))::oh++(nF++hC)).Perm (nF++((nk,Ob.vec (cg (iC E x) .aW ov false))::oh++hC)):=List.perm_append_comm_assoc _ _ _;rw [<- List.append_assoc nF] at h1;exact h1
    have lH:mM E x=[]:=by unfold mM;rw [if_neg (by rw [hq];decide)]
    have rX:=Ed (Hl (ez E x)) (uW E x) (by rw [lH];rfl);have we:ef [] .aW []:=.inl ⟨rfl,rfl,rfl⟩;have Na:([]:List Wy).length<=1:=(by simp);(conv=>whnf);repeat (refine ⟨_,_,.head _,rfl,?_⟩;conv=>whnf)
    refine cy rfl mixed [0,7,54,55,56] [] (fun m r h=>∃ (i:Nat) (Q:List Wy) (ov:AV) (oh:ab) (ext:fI) (hC:ab),r=[(0,[],.au (kG E (.omap nb) cv)),(7,[],.bn nk 0),(54,[],iC E x),(55,[],.int .i64 ((dP E x).map uT).length),(56,[],.int .i64 i)]/\h=(nk,.vec (cg (iC E x) .aW ov false))::(nb,ea (es++(x,nk)::ext))::(oh++(nF++hC))/\m=(dP E x).length - i/\i<=(dP E x).length/\tw (ez E x) (i+1) Q/\ef Q ov oh/\Q.length<=i+1/\(∀ p∈ext,x.n+1<=p.1.n)/\dQ E c (x.n+1) (es++(x,nk)::ext) hC) ?_ ?_
    ·conv=>whnf
     first
      | exact ⟨_,_,ar.refl _ _,_,0,Q0,zq,zr,[],wz,rfl,rfl,rfl,by omega,rX,we,by omega,(fun p hp=>by cases hp),EW⟩
      | exact ⟨_,_,ar.refl _ _,_,0,[],.aW,[],[],wz,rfl,rfl,rfl,by omega,rX,we,by omega,(fun p hp=>by cases hp),EW⟩
    rintro m r h' ⟨i,Q,ov,oh,ext,hC,rfl,rfl,rfl,hi,pt,ho,hQ,fA,hN⟩;(conv=>whnf);refine ⟨fun aD=>?_,fun aD=>?_⟩<;>simp at aD
    ·obtain ⟨m,hm⟩:=aN aD;have pw:=bS m (List.mem_of_getElem? hm);have bZ:=pw.next;have IS:=pw.cost;have rW:=og (IH m.to pw.to bZ) (nb:=nb) (cv:=cv) (es:=es++(x,nk)::ext) (c:=c) (hB:=hC) (aO:=0) (by rw [bZ];exact hN) (by decide) [(nk,.vec (cg (iC E x) .aW ov false))] (oh++nF);simp only [List.append_assoc] at rW;(conv=>whnf);repeat ((first|refine ix (by assumption) ?_|(intro (b9:Nat))|(refine ay.mono ?_ rW)|refine ⟨_,_,aK.here _,⟨Nat.le_of_ble_eq_true rfl,rfl⟩,?_⟩);conv=>whnf)
     rintro v h' ⟨rfl,gQ,uY,nD,gY,rfl⟩;rw [bZ] at gY;have sw:es++(x,nk)::(ext++gQ)=es++(x,nk)::ext++gQ:=by rw [List.append_assoc];rfl
     have wA:∀ p∈ext++gQ,x.n+1<=p.1.n:=by
      intro p hp;rcases List.mem_append.1 hp with h|h
      ·exact fA p h
      have:=nD p h;omega
     have bw:=zN hm;cases hw:(df E m.to)[0]? with
     | none=>
       have dy:bW E m.to 0=.aQ [.agg pq,.bool false]:=by unfold bW;rw [hw]
       have ym:=Ed pt bw (by rw [List.getElem?_map,hw];rfl);rw [dy];(conv=>whnf);repeat ((first|refine ⟨_,_,aK.here _,⟨Nat.le_of_ble_eq_true rfl,rfl⟩,?_⟩|intro (nb:Nat));conv=>whnf)
       refine cF rfl ?_;(conv=>whnf);repeat (refine ⟨af ⟨by omega,by omega⟩,?_⟩;conv=>whnf)
       refine ⟨_,_,ar.refl _ _,_,(by omega),i+1,Q,ov,oh,ext++gQ,uY,rfl,?_,rfl,by omega,ym,ho,by omega,wA,by rw [sw];simpa using gY⟩;rw [sw];simp
     | some w=>
       have dy:bW E m.to 0=.aQ [.agg (al w),.bool true]:=by unfold bW;rw [hw]
       have xR:=IQ hE _ m.to pw.to rfl w (List.mem_of_getElem? hw);have hd:(12 - m.to.n).toNat<=11:=(by omega);have ym:=Ee pt bw (c:=w.cost+(m.cost*16+1)) (by rw [List.getElem?_map,hw];rfl);have su:=mD (x:=⟨w.cost+(m.cost*16+1),i+1,0⟩) pt.1 (nk:=nk) (mv:=iC E x) (fv:=.aW) (due:=false) ho (by omega) [] [(nb,ea (es++(x,nk)::(ext++gQ)))] (nF++uY)
       rw [show al ⟨w.cost+(m.cost*16+1),i+1,0⟩=[.int .i64 (w.cost / 16+m.cost),.int .i64 (w.cost % 16+1),.int .i64 i,.int .i64 0] by
        unfold al;rw [show (w.cost+(m.cost*16+1)) / 16=w.cost / 16+m.cost by omega,show (w.cost+(m.cost*16+1)) % 16=w.cost % 16+1 by omega,show ((i+1:Nat):Int) - 1=(i:Int) by omega];rfl] at su
       rw [dy];(conv=>whnf);repeat ((first|refine ⟨_,_,aK.here _,⟨Nat.le_of_ble_eq_true rfl,rfl⟩,?_⟩|intro (nb:Nat));conv=>whnf)
       refine cT rfl ?_;(conv=>whnf);repeat ((first|refine ⟨af ⟨by omega,by omega⟩,?_⟩|(refine ay.mono ?_ su)|refine And.intro (by show aJ (aH Tryz.f106 _) _=true;decide +kernel) ?_);conv=>whnf)
       rintro v h' ⟨rfl,IX,IY,cr,rfl⟩;(conv=>whnf);repeat (refine ⟨af ⟨by omega,by omega⟩,?_⟩;conv=>whnf)
       refine ⟨_,_,ar.refl _ _,_,(by omega),i+1,_,IX,IY,ext++gQ,uY,rfl,?_,rfl,by omega,ym,cr,by rw [vV];omega,wA,by rw [sw];simpa using gY⟩;rw [sw];simp
    have cI:i=(dP E x).length:=(by omega);subst cI;rw [<- zM] at pt;have bf:=Hm pt;have bZ:zP E x nk ((nk,.vec (cg (iC E x) .aW ov false))::oh):=⟨0,false,Q,.aW,[],ov,oh,⟨bf,by simp;omega,by omega⟩,.inl ⟨rfl,rfl,rfl⟩,ho,rfl⟩;(conv=>whnf);skip;refine ⟨nk,(x,nk)::ext,(nF++((nk,.vec (cg (iC E x) .aW ov false))::oh))++hC,rfl,?_,?_,?_,?_⟩
    ·rw [ET,dz];simp [dF]
    ·intro p hp;rcases List.mem_cons.1 hp with h|h
     ·rw [h];exact Int.le_refl _
     have:=fA p h;omega
    ·refine .step ?_ hN;have h1:=(hA.snoc (k:=nk) rfl bZ).more (ext:=ext) (fun p hp=>by have:=fA p hp;omega);rw [List.append_assoc] at h1;exact h1
    refine List.Perm.trans (List.Perm.swap _ _ _) (List.Perm.cons _ ?_);have h1:((nk,Ob.vec (cg (iC E x) .aW ov false))::oh++(nF++hC)).Perm (nF++((nk,Ob.vec (cg (iC E x) .aW ov false))::oh++hC)):=List.perm_append_comm_assoc _ _ _;rw [<- List.append_assoc nF] at h1;exact h1
   rintro v h1 ⟨k,ext,aZ,rfl,h2,h3,h4,eH⟩;exact ⟨_,_,⟨k,ext,aZ,rfl,h2,h3,h4,rfl⟩,ag.refl _,fun _ _ h=>eH.mem_iff.2 h,fun h=>by unfold keys at h ⊢;exact ((eH.map _).nodup_iff).1 h⟩
end Go.Abs.Wall.Spl
namespace Go.Abs.Wall.Spl
open Go Go.Abs Go.Proofs Go.Abs.Wall
open Go.Abs.Wall.Lst hiding al gL lq jg gk da lr kd lu lx ly lz lA ef lB cg lC oY qT bW jE og mD oZ getAll
theorem VV {E:Env} {x:br} (HN:EV E x) {nb:Nat} {cv:AV} {es:fI} {c:Nat} {hB:ab} (hn:dQ E c x.n es hB) (A:ab) :
  ay Tryz.prog 106 [.au (kG E (.omap nb) cv),.agg (km x)] (A++(nb,ea es)::hB)
   (fun v H'=>∃ k ext aZ,v=.bn k 0/\dF x (es++ext)=some k/\(∀ p∈ext,x.n<=p.1.n)/\dQ E c x.n (es++ext) aZ/\H'=A++(nb,ea (es++ext))::aZ):=by
 have permA:∀ {m:Nat × Ob} {D:ab},(m::D++A).Perm (A++m::D):=by intro m D;refine List.Perm.trans ?_ List.perm_middle.symm;exact List.Perm.cons _ List.perm_append_comm
 refine ay.re (HN nb cv es c hB hn) (h2:=A) permA ?_;rintro v h1 ⟨k,ext,aZ,h2,h3,h4,h5,rfl⟩;exact ⟨_,permA,k,ext,aZ,h2,h3,h4,h5,rfl⟩
theorem VW (a b:Int) (e r:Nat) (ha:0<=a) (hr:a % 16+1<16):al ⟨a+(b*16+1),e,r⟩=[.int .i64 (a / 16+b),.int .i64 (a % 16+1),.int .i64 (e - 1),.int .i64 r]:=by unfold al;rw [show (a+(b*16+1)) / 16=a / 16+b by omega,show (a+(b*16+1)) % 16=a % 16+1 by omega]
theorem VX {a b m:Nat × Ob} {X F O Y C:ab}:(a::b::(X++(m::(F++O)++Y)++C)).Perm (a::b::m::(F++(O++(X++(Y++C))))):=by refine List.Perm.cons _ (List.Perm.cons _ ?_);have:=List.perm_append_comm_assoc X (m::(F++O)) (Y++C);simpa using this
def c105:aw:=⟨[0,1,2,4,6,7,8,9,10,11,12,22,26,44,63,91],[],[9,10,11],[],[(5,[0,1,2,3,4,5,6,7,8,9,10,11,12,13],[9]),(7,[0,1,2,3,4,5,6,7,8,9],[10]),(10,[0,1,2,3,4,5,6,7,8,9,10,11,12,13,14,15,16,17,18,19,20],[]),(13,[0,1,2,3,4,5,6,7,8,9,10,11,12,13,14,15,16],[])],[60,84]⟩
set_option maxHeartbeats 8000000 in
theorem oZ (E:Env) (hE:gO E) (x:br) (hx:gX E x) (HN:EV E x) (IH:∀ y,gX E y->y.n=x.n+1->jE E y):jE E x:=by
 intro tb cv es c hp aO hN hr;have IK:=hx.n;have me:=sr hE hx;have bS:=fun m (hm:m∈dP E x)=>uV hE hx hm;have jb:=OC (x:=x) hE;refine ay.post (R:=fun v h'=>v=bW E x aO/\∃ ext aZ,(∀ p∈ext,x.n<=p.1.n)/\dQ E c x.n (es++ext) aZ/\(dF x (es++ext)).isSome=true/\∃ rb o,h'.Perm ((rb,o)::(tb,ea (es++ext))::aZ)) ?_ ?_
 ·refine ay.mono (R:=fun (v:AV) (h':ab)=>∃ px,(∀ p∈px,x.n<=p.1.n)/\v=bW E x aO/\∃ ext aZ,(∀ p∈ext,x.n+1<=p.1.n)/\dQ E c x.n (es++px++ext) aZ/\(dF x (es++px++ext)).isSome=true/\∃ rb o,h'.Perm ((rb,o)::(tb,ea (es++px++ext))::aZ)) ?_ ?_
  ·rintro v h' ⟨px,h0,hv,ext,aZ,h1,h2,kI,rb,o,h3⟩;refine ⟨hv,px++ext,aZ,?_,by rw [<- List.append_assoc];exact h2,by rw [<- List.append_assoc];exact kI,rb,o,by rw [<- List.append_assoc];exact h3⟩;intro p hp;rcases List.mem_append.1 hp with h|h
   ·exact h0 p h
   have:=h1 p h;omega
  have VY:=fun rb=>VV HN hN (nb:=tb) (cv:=cv) [(rb,.vec pq)];refine aG (F:=Tryz.f105) c105 rfl rfl rfl mixed rfl fun X=>?_;(conv=>whnf);repeat ((first|(intro (rb:Nat))|(refine ay.mono ?_ (VY _)));conv=>whnf)
  rintro v h' ⟨k,px,aZ,rfl,dz,kF,zQ,rfl⟩;cases zQ with
  | done hd=>omega
  | step hA hB=>
  rename_i c nF wz;obtain ⟨hX,h1,hY,rfl,bZ,su⟩:=hA.pick rfl dz;obtain ⟨mO,oz⟩:∃ e,e=es++px:=⟨_,rfl⟩;rw [<- oz] at dz hB su;clear hA hN
  have fin:∀ (t:Nat) (due:Bool) (Q:List Wy) (fv:AV) (fh:ab) (ov:AV) (oh:ab) (ext:fI) (hC:ab),zO (ez E x) t due Q->Out 4 al ((aY (ez E x)).take t) fv fh->ef Q ov oh->(∀ p∈ext,x.n+1<=p.1.n)->dQ E c (x.n+1) (mO++ext) hC ->
    ∃ aZ,dQ E (c+1) x.n (mO++ext) aZ/\((k,Ob.vec (cg (iC E x) fv ov due))::(fh++(oh++(hX++(hY++hC))))).Perm aZ:=by
   intro t due Q fv fh ov oh ext hC h1 h2 h3 h4 h5;have h6:=(su _ ⟨t,due,Q,fv,fh,ov,oh,h1,h2,h3,rfl⟩).more (ext:=ext) (fun p hp=>by have:=h4 p hp;omega);refine ⟨_,.step h6 h5,?_⟩;simp only [List.append_assoc,List.cons_append];have:=List.perm_append_comm_assoc (((k,Ob.vec (cg (iC E x) fv ov due))::fh)++oh) hX (hY++hC);simpa using this
  have iS:∀ ext:fI,(dF x (mO++ext)).isSome=true:=fun ext=>by rw [ET,dz];rfl
  obtain ⟨t0,HA,Q0,HB,HD,zq,zr,xE,BD,BE,rfl⟩:=bZ;(conv=>whnf);skip;refine cy rfl mixed [0,2,6,8] [] (fun m r h=>∃ (t:Nat) (due:Bool) (Q:List Wy) (fv:AV) (fh:ab) (ov:AV) (oh:ab) (ext:fI) (hC:ab),r=[(0,[],.au (kG E (.omap tb) cv)),(2,[],.int .i64 aO),(6,[],.bn rb 0),(8,[],.bn k 0)]/\h=(rb,.vec pq)::(tb,ea (mO++ext))::(k,.vec (cg (iC E x) fv ov due))::(fh++(oh++(hX++(hY++hC))))/\m=66 - t/\zO (ez E x) t due Q/\Out 4 al ((aY (ez E x)).take t) fv fh/\ef Q ov oh/\(∀ p∈ext,x.n+1<=p.1.n)/\dQ E c (x.n+1) (mO++ext) hC) ?_ ?_
  ·(conv=>whnf);refine ⟨_,_,ar.perm VX,_,t0,HA,Q0,HB,HD,zq,zr,[],wz,rfl,?_,rfl,xE,BD,BE,(fun p hp=>by cases hp),by rw [List.append_nil];exact hB⟩;rw [List.append_nil];simp;rw [oz]
  clear xE BD BE hB;rintro m r h' ⟨t,due,Q,fv,fh,ov,oh,ext,hC,rfl,rfl,rfl,bf,oa,dp,fA,gY⟩;have gx:=bf.ok.le;have qU:=oa;have hlen:((aY (ez E x)).take t).length=t:=by rw [List.length_take];omega
  have P3:(((aY (ez E x)).take t).map al).length=t:=by rw [List.length_map];exact hlen
  have Uj:=bf.asked;rcases oa with ⟨hF,rfl,rfl⟩|⟨q,rfl,rfl⟩
  ·have HE:t=0:=by rw [hF] at hlen;exact hlen.symm
   have HF:due=false:=by
    cases due with
    | false=>rfl
    | true=>have:=bf.ok.pos rfl;omega
   subst HF;have nw:t<=aO:=(by omega);(conv=>whnf);repeat ((refine ⟨_,_,.tail _ (.tail _ (.head _)),rfl,?_⟩);conv=>whnf)
   refine cT (by simp) ?_;(conv=>whnf);repeat ((refine ⟨_,_,.tail _ (.tail _ (.head _)),rfl,?_⟩);conv=>whnf)
   refine cF rfl ?_;cases hQ:Q with
   | nil=>
     subst hQ;have dy:bW E x aO=.aQ [.agg pq,.bool false]:=by unfold bW;rw [me,uE bf.ok.empty nw]
     obtain ⟨tT,dx,eH⟩:=fin _ _ _ _ _ _ _ _ _ bf qU dp fA gY;rcases dp with ⟨_,rfl,rfl⟩|⟨ob,pr,rfl,rfl⟩
     all_goals
      (conv=>whnf);repeat ((refine ⟨_,_,.tail _ (.tail _ (.head _)),rfl,?_⟩);conv=>whnf)
      refine cT rfl ?_;(conv=>whnf);repeat ((first|(refine ⟨_,_,.here _,aF,?_⟩)|refine ⟨_,_,.head _,rfl,?_⟩);conv=>whnf)
      refine ⟨px,kF,?_⟩;rw [<- oz];exact ⟨dy.symm,ext,_,fA,dx,iS ext,rb,_,List.Perm.cons _ (List.Perm.cons _ eH)⟩
   | cons z Q'=>
     rcases dp with ⟨h0,rfl,rfl⟩|⟨ob,pr,rfl,rfl⟩
     ·rw [hQ] at h0;cases h0
     subst hQ;obtain ⟨ga,fw⟩:=bf.ok.pop;have ch:=take_one ga;have dI:=bf.bE;have uF:(z::Q').length=Q'.length+1:=rfl;have vX:((aY (ez E x)).take t).length<=65:=(by omega);(conv=>whnf);repeat ((refine ⟨_,_,.tail _ (.tail _ (.head _)),rfl,?_⟩);conv=>whnf)
     refine cF (decide_eq_false (by omega)) ?_;(conv=>whnf);repeat ((first|(refine ⟨_,_,.tail _ (.tail _ (.head _)),rfl,?_⟩)|(refine ⟨0,af ⟨rfl,by omega⟩,?_⟩)|(refine oe (i:=0) da (.tail _ (.tail _ (.tail _ (.head _)))) rfl rfl ?_)|refine And.intro (by show aJ (aH Tryz.f105 _) _=true;decide +kernel) ?_);conv=>whnf)
     first|refine ⟨Nat.le_of_ble_eq_true rfl,fun q'=>?_⟩|refine ⟨(by simp;unfold aV;omega),fun q'=>⟨_,.there (.there (.there (.here _))),?_⟩⟩
     (conv=>whnf);repeat ((first|refine ⟨af ⟨by omega,by omega⟩,?_⟩|(refine ⟨_,_,.there (.there (.there (.here _))),aF,?_⟩)|(refine ⟨_,_,.tail _ (.tail _ (.tail _ (.head _))),rfl,?_⟩));conv=>whnf)
     have e1:pr.length+Int.toNat 1*4=(pr++al z).length:=by rw [List.length_append];rfl
     have e2:(((z::Q').length:Nat):Int).toNat - Int.toNat 1=Q'.length:=by rw [Int.toNat_natCast];rfl
     have e3:pr++((z::Q').map al).flatten=(pr++al z)++(Q'.map al).flatten:=(by simp);have gW:Q'.length+(if true=true then 1 else 0)<=60000:=by simp at dI ⊢;omega
     rw [e1,e2,e3]
     first
      | exact ⟨_,_,ar.refl _ _,_,(by omega),t+1,true,Q',_,[(q',.tok)],_,[(ob,_)],ext,hC,rfl,rfl,rfl,⟨fw,gW,by omega⟩,.inr ⟨q',by rw [ch,List.map_append];rfl,rfl⟩,.inr ⟨ob,pr++al z,rfl,rfl⟩,fA,gY⟩
      | exact ⟨_,_,ar.perm (List.perm_middle (l₁:=[_,_,_])).symm,_,(by omega),t+1,true,Q',_,[(q',.tok)],_,[(ob,_)],ext,hC,rfl,rfl,rfl,⟨fw,gW,by omega⟩,.inr ⟨q',by rw [ch,hF];rfl,rfl⟩,.inr ⟨ob,pr++al z,rfl,rfl⟩,fA,gY⟩
  (conv=>whnf);repeat ((refine ⟨_,_,.tail _ (.tail _ (.head _)),rfl,?_⟩);conv=>whnf)
  refine ⟨fun hz=>?_,fun hz=>?_⟩<;>simp at hz
  ·have nw:t<=aO:=(by omega);cases due with
   | false=>
     (conv=>whnf);repeat ((refine ⟨_,_,.tail _ (.tail _ (.head _)),rfl,?_⟩);conv=>whnf)
     refine cF rfl ?_;cases hQ:Q with
     | nil=>
       subst hQ;have dy:bW E x aO=.aQ [.agg pq,.bool false]:=by unfold bW;rw [me,uE bf.ok.empty nw]
       obtain ⟨tT,dx,eH⟩:=fin _ _ _ _ _ _ _ _ _ bf qU dp fA gY;rcases dp with ⟨_,rfl,rfl⟩|⟨ob,pr,rfl,rfl⟩
       all_goals
        (conv=>whnf);repeat ((refine ⟨_,_,.tail _ (.tail _ (.head _)),rfl,?_⟩);conv=>whnf)
        refine cT rfl ?_;(conv=>whnf);repeat ((first|(refine ⟨_,_,.here _,aF,?_⟩)|refine ⟨_,_,.head _,rfl,?_⟩);conv=>whnf)
        refine ⟨px,kF,?_⟩;rw [<- oz];exact ⟨dy.symm,ext,_,fA,dx,iS ext,rb,_,List.Perm.cons _ (List.Perm.cons _ eH)⟩
     | cons z Q'=>
       rcases dp with ⟨h0,rfl,rfl⟩|⟨ob,pr,rfl,rfl⟩
       ·rw [hQ] at h0;cases h0
       subst hQ;obtain ⟨ga,fw⟩:=bf.ok.pop;have ch:=take_one ga;have dI:=bf.bE;have uF:(z::Q').length=Q'.length+1:=rfl;have vX:((aY (ez E x)).take t).length<=65:=(by omega);(conv=>whnf);repeat ((refine ⟨_,_,.tail _ (.tail _ (.head _)),rfl,?_⟩);conv=>whnf)
       refine cF (decide_eq_false (by omega)) ?_;(conv=>whnf);repeat ((first|(refine ⟨_,_,.tail _ (.tail _ (.head _)),rfl,?_⟩)|(refine ⟨0,af ⟨rfl,by omega⟩,?_⟩)|(refine oe (i:=0) da (.tail _ (.tail _ (.tail _ (.tail _ (.head _))))) rfl rfl ?_)|refine And.intro (by show aJ (aH Tryz.f105 _) _=true;decide +kernel) ?_);conv=>whnf)
       first|refine ⟨Nat.le_of_ble_eq_true rfl,fun q'=>?_⟩|refine ⟨(by simp;unfold aV;omega),fun q'=>⟨_,.there (.there (.there (.here _))),?_⟩⟩
       (conv=>whnf);repeat ((first|refine ⟨af ⟨by omega,by omega⟩,?_⟩|(refine ⟨_,_,.there (.there (.here _)),aF,?_⟩)|(refine ⟨_,_,.tail _ (.tail _ (.head _)),rfl,?_⟩));conv=>whnf)
       have e1:pr.length+Int.toNat 1*4=(pr++al z).length:=by rw [List.length_append];rfl
       have e2:(((z::Q').length:Nat):Int).toNat - Int.toNat 1=Q'.length:=by rw [Int.toNat_natCast];rfl
       have e3:pr++((z::Q').map al).flatten=(pr++al z)++(Q'.map al).flatten:=(by simp);have gW:Q'.length+(if true=true then 1 else 0)<=60000:=by simp at dI ⊢;omega
       rw [e1,e2,e3]
       first
        | exact ⟨_,_,ar.refl _ _,_,(by omega),t+1,true,Q',_,[(q',.tok)],_,[(ob,_)],ext,hC,rfl,rfl,rfl,⟨fw,gW,by omega⟩,.inr ⟨q',by rw [ch,List.map_append];rfl,rfl⟩,.inr ⟨ob,pr++al z,rfl,rfl⟩,fA,gY⟩
        | exact ⟨_,_,ar.perm (List.perm_middle (l₁:=[_,_,_])).symm,_,(by omega),t+1,true,Q',_,[(q',.tok)],_,[(ob,_)],ext,hC,rfl,rfl,rfl,⟨fw,gW,by omega⟩,.inr ⟨q',by rw [ch,hF];rfl,rfl⟩,.inr ⟨ob,pr++al z,rfl,rfl⟩,fA,gY⟩
   | true=>
     obtain ⟨y,hy⟩:=bf.ok.last;have zs:=bf.ok.pos rfl;have Bt:=Bs hy;have Ej:((aY (ez E x)).take t)[t - 1]?=some y:=by rw [List.getElem?_take_of_lt (by omega)];exact hy
     obtain ⟨_,cl,bw,bA⟩:=iN hy;have VZ:=(List.getElem?_eq_some_iff.1 bw).1;rw [zM] at VZ;have lN:y.aP<=40000:=(by omega);by_cases Is:y.aP=0
     ·have ep:(mM E x)[y.aO+1]?=none:=by
       unfold mM;split<;>simp
      have bf:zO (ez E x) t false Q:=⟨bf.ok.skip hy (by rw [Is];exact uW E x) ep,by have:=bf.bE;simp at this ⊢;omega,bf.asked⟩;(conv=>whnf);repeat ((refine ⟨_,_,.tail _ (.tail _ (.head _)),rfl,?_⟩);conv=>whnf)
      refine cT rfl ?_;(conv=>whnf);repeat ((first|refine ⟨af ⟨by omega,by omega⟩,?_⟩|(refine ⟨_,_,.there (.there (.here _)),aF,?_⟩)|(refine ⟨_,_,.tail _ (.tail _ (.head _)),rfl,?_⟩)|(refine cj (t - 1) (by omega) Ej ?_)|refine ⟨_,_,aK.here _,?_⟩|refine ⟨_,_,.here _,aF,?_⟩|refine And.intro (by show aJ (aH Tryz.f105 _) _=true;decide +kernel) ?_|intro (nb:Nat));conv=>whnf)
      refine cF (decide_eq_false (by omega)) ?_;cases hQ:Q with
      | nil=>
        subst hQ;have dy:bW E x aO=.aQ [.agg pq,.bool false]:=by unfold bW;rw [me,uE bf.ok.empty nw]
        obtain ⟨tT,dx,eH⟩:=fin _ _ _ _ _ _ _ _ _ bf qU dp fA gY;rcases dp with ⟨_,rfl,rfl⟩|⟨ob,pr,rfl,rfl⟩
        all_goals
         (conv=>whnf);repeat ((refine ⟨_,_,.tail _ (.tail _ (.head _)),rfl,?_⟩);conv=>whnf)
         refine cT rfl ?_;(conv=>whnf);repeat ((first|(refine ⟨_,_,.here _,aF,?_⟩)|refine ⟨_,_,.head _,rfl,?_⟩);conv=>whnf)
         refine ⟨px,kF,?_⟩;rw [<- oz];exact ⟨dy.symm,ext,_,fA,dx,iS ext,rb,_,List.Perm.cons _ (List.Perm.cons _ eH)⟩
      | cons z Q'=>
        rcases dp with ⟨h0,rfl,rfl⟩|⟨ob,pr,rfl,rfl⟩
        ·rw [hQ] at h0;cases h0
        subst hQ;obtain ⟨ga,fw⟩:=bf.ok.pop;have ch:=take_one ga;have dI:=bf.bE;have uF:(z::Q').length=Q'.length+1:=rfl;have vX:((aY (ez E x)).take t).length<=65:=(by omega);(conv=>whnf);repeat ((refine ⟨_,_,.tail _ (.tail _ (.head _)),rfl,?_⟩);conv=>whnf)
        refine cF (decide_eq_false (by omega)) ?_;(conv=>whnf);repeat ((first|(refine ⟨_,_,.tail _ (.tail _ (.head _)),rfl,?_⟩)|(refine ⟨0,af ⟨rfl,by omega⟩,?_⟩)|(refine oe (i:=0) da (.tail _ (.tail _ (.tail _ (.tail _ (.head _))))) rfl rfl ?_)|refine And.intro (by show aJ (aH Tryz.f105 _) _=true;decide +kernel) ?_);conv=>whnf)
        first|refine ⟨Nat.le_of_ble_eq_true rfl,fun q'=>?_⟩|refine ⟨(by simp;unfold aV;omega),fun q'=>⟨_,.there (.there (.there (.here _))),?_⟩⟩
        (conv=>whnf);repeat ((first|refine ⟨af ⟨by omega,by omega⟩,?_⟩|(refine ⟨_,_,.there (.there (.here _)),aF,?_⟩)|(refine ⟨_,_,.tail _ (.tail _ (.head _)),rfl,?_⟩));conv=>whnf)
        have e1:pr.length+Int.toNat 1*4=(pr++al z).length:=by rw [List.length_append];rfl
        have e2:(((z::Q').length:Nat):Int).toNat - Int.toNat 1=Q'.length:=by rw [Int.toNat_natCast];rfl
        have e3:pr++((z::Q').map al).flatten=(pr++al z)++(Q'.map al).flatten:=(by simp);have gW:Q'.length+(if true=true then 1 else 0)<=60000:=by simp at dI ⊢;omega
        rw [e1,e2,e3]
        first
         | exact ⟨_,_,ar.refl _ _,_,(by omega),t+1,true,Q',_,[(q',.tok)],_,[(ob,_)],ext,hC,rfl,rfl,rfl,⟨fw,gW,by omega⟩,.inr ⟨q',by rw [ch,List.map_append];rfl,rfl⟩,.inr ⟨ob,pr++al z,rfl,rfl⟩,fA,gY⟩
         | exact ⟨_,_,ar.perm (List.perm_middle (l₁:=[_,_,_])).symm,_,(by omega),t+1,true,Q',_,[(q',.tok)],_,[(ob,_)],ext,hC,rfl,rfl,rfl,⟨fw,gW,by omega⟩,.inr ⟨q',by rw [ch,hF];rfl,rfl⟩,.inr ⟨ob,pr++al z,rfl,rfl⟩,fA,gY⟩
     obtain ⟨mv,tN⟩:=aN (l:=dP E x) (i:=y.aP - 1) (by omega);have pw:=bS mv (List.mem_of_getElem? tN);have bZ:=pw.next;have IS:=pw.cost;have yn:=zN tN;rw [show y.aP - 1+1=y.aP by omega] at yn;(conv=>whnf);repeat ((refine ⟨_,_,.tail _ (.tail _ (.head _)),rfl,?_⟩);conv=>whnf)
     refine cT rfl ?_;(conv=>whnf);repeat ((first|refine ⟨af ⟨by omega,by omega⟩,?_⟩|(refine ⟨_,_,.there (.there (.here _)),aF,?_⟩)|(refine ⟨_,_,.tail _ (.tail _ (.head _)),rfl,?_⟩)|(refine cj (t - 1) (by omega) Ej ?_)|refine ⟨_,_,aK.here _,?_⟩|refine ⟨_,_,.here _,aF,?_⟩|refine And.intro (by show aJ (aH Tryz.f105 _) _=true;decide +kernel) ?_|intro (nb:Nat));conv=>whnf)
     refine cT (decide_eq_true (by omega)) ?_;have rW:=og (IH mv.to pw.to bZ) (nb:=tb) (cv:=cv) (es:=mO++ext) (c:=c) (hB:=hC) (aO:=y.aO+1) (by rw [bZ];exact gY) (by omega) [(rb,.vec pq)] ((k,.vec (cg (iC E x) (.sl 4 (some q) (((aY (ez E x)).take t).map al)) ov false))::(q,.tok)::(oh++(hX++hY)));simp only [List.append_assoc,List.cons_append] at rW;(conv=>whnf);repeat ((first|refine ⟨af ⟨by omega,by omega⟩,?_⟩|(refine ⟨_,_,.tail _ (.tail _ (.head _)),rfl,?_⟩)|(refine cj (enc:=uT) (y.aP - 1) (by omega) tN ?_)|(refine ay.mono ?_ rW)|refine ⟨_,_,aK.here _,?_⟩|refine ⟨_,_,.here _,aF,?_⟩|refine And.intro (by show aJ (aH Tryz.f105 _) _=true;decide +kernel) ?_|intro (nb:Nat));conv=>whnf)
     rintro v h1 ⟨rfl,gQ,uY,ee,dx,rfl⟩;rw [bZ] at dx ee
     have wA:∀ p∈ext++gQ,x.n+1<=p.1.n:=by
      intro p hp;rcases List.mem_append.1 hp with h|h
      ·exact fA p h
      exact ee p h
     have pa:((df E mv.to).map fun w=>w.cost+(mv.cost*16+1))[y.aO+1]?=((df E mv.to)[y.aO+1]?).map fun w=>w.cost+(mv.cost*16+1):=List.getElem?_map;have dI:=bf.bE;have Uk:Q.length+1<=60000:=(by simpa using dI);obtain ⟨yo,OL⟩:∃ e,e=ext++gQ:=⟨_,rfl⟩;rw [<- OL] at wA dx;rw [<- OL];have fA:=wA;have gY:=dx;obtain ⟨ext,rfl⟩:∃ e,e=yo:=⟨_,rfl⟩;obtain ⟨hC,rfl⟩:∃ e,e=uY:=⟨_,rfl⟩;cases hw:(df E mv.to)[y.aO+1]? with
     | none=>
       have dy:bW E mv.to (y.aO+1)=.aQ [.agg pq,.bool false]:=by unfold bW;rw [hw]
       rw [hw] at pa;rw [dy];have bf:zO (ez E x) t false Q:=⟨bf.ok.skip hy yn pa,by simp;omega,bf.asked⟩;(conv=>whnf);repeat ((first|refine ⟨_,_,aK.here _,⟨Nat.le_of_ble_eq_true rfl,rfl⟩,?_⟩|intro (nb:Nat));conv=>whnf)
       refine cF rfl ?_;cases hQ:Q with
       | nil=>
         subst hQ;have dy:bW E x aO=.aQ [.agg pq,.bool false]:=by unfold bW;rw [me,uE bf.ok.empty nw]
         obtain ⟨tT,dx,eH⟩:=fin _ _ _ _ _ _ _ _ _ bf qU dp fA gY;rcases dp with ⟨_,rfl,rfl⟩|⟨ob,pr,rfl,rfl⟩
         all_goals
          (conv=>whnf);repeat ((refine ⟨_,_,.tail _ (.tail _ (.head _)),rfl,?_⟩);conv=>whnf)
          refine cT rfl ?_;(conv=>whnf);repeat ((first|(refine ⟨_,_,.here _,aF,?_⟩)|refine ⟨_,_,.head _,rfl,?_⟩);conv=>whnf)
          refine ⟨px,kF,?_⟩;rw [<- oz];exact ⟨dy.symm,ext,_,fA,dx,iS ext,rb,_,List.Perm.cons _ (List.Perm.cons _ eH)⟩
       | cons z Q'=>
         rcases dp with ⟨h0,rfl,rfl⟩|⟨ob,pr,rfl,rfl⟩
         ·rw [hQ] at h0;cases h0
         subst hQ;obtain ⟨ga,fw⟩:=bf.ok.pop;have ch:=take_one ga;have dI:=bf.bE;have uF:(z::Q').length=Q'.length+1:=rfl;have vX:((aY (ez E x)).take t).length<=65:=(by omega);(conv=>whnf);repeat ((refine ⟨_,_,.tail _ (.tail _ (.head _)),rfl,?_⟩);conv=>whnf)
         refine cF (decide_eq_false (by omega)) ?_;(conv=>whnf);repeat ((first|(refine ⟨_,_,.tail _ (.tail _ (.head _)),rfl,?_⟩)|(refine ⟨0,af ⟨rfl,by omega⟩,?_⟩)|(refine oe (i:=0) da (.tail _ (.tail _ (.tail _ (.tail _ (.head _))))) rfl rfl ?_)|refine And.intro (by show aJ (aH Tryz.f105 _) _=true;decide +kernel) ?_);conv=>whnf)
         first|refine ⟨Nat.le_of_ble_eq_true rfl,fun q'=>?_⟩|refine ⟨(by simp;unfold aV;omega),fun q'=>⟨_,.there (.there (.there (.here _))),?_⟩⟩
         (conv=>whnf);repeat ((first|refine ⟨af ⟨by omega,by omega⟩,?_⟩|(refine ⟨_,_,.there (.there (.here _)),aF,?_⟩)|(refine ⟨_,_,.tail _ (.tail _ (.head _)),rfl,?_⟩));conv=>whnf)
         have e1:pr.length+Int.toNat 1*4=(pr++al z).length:=by rw [List.length_append];rfl
         have e2:(((z::Q').length:Nat):Int).toNat - Int.toNat 1=Q'.length:=by rw [Int.toNat_natCast];rfl
         have e3:pr++((z::Q').map al).flatten=(pr++al z)++(Q'.map al).flatten:=(by simp);have gW:Q'.length+(if true=true then 1 else 0)<=60000:=by simp at dI ⊢;omega
         rw [e1,e2,e3]
         first
          | exact ⟨_,_,ar.refl _ _,_,(by omega),t+1,true,Q',_,[(q',.tok)],_,[(ob,_)],ext,hC,rfl,rfl,rfl,⟨fw,gW,by omega⟩,.inr ⟨q',by rw [ch,List.map_append];rfl,rfl⟩,.inr ⟨ob,pr++al z,rfl,rfl⟩,fA,gY⟩
          | exact ⟨_,_,ar.perm (List.perm_middle (l₁:=[_,_,_])).symm,_,(by omega),t+1,true,Q',_,[(q',.tok)],_,[(ob,_)],ext,hC,rfl,rfl,rfl,⟨fw,gW,by omega⟩,.inr ⟨q',by rw [ch,hF];rfl,rfl⟩,.inr ⟨ob,pr++al z,rfl,rfl⟩,fA,gY⟩
     | some w=>
       have dy:bW E mv.to (y.aO+1)=.aQ [.agg (al w),.bool true]:=by unfold bW;rw [hw]
       rw [hw] at pa;have xR:=IQ hE _ mv.to pw.to rfl w (List.mem_of_getElem? hw);have hd:(12 - mv.to.n).toNat<=11:=(by omega);rw [dy];(conv=>whnf);repeat ((first|refine ⟨_,_,aK.here _,⟨Nat.le_of_ble_eq_true rfl,rfl⟩,?_⟩|intro (nb:Nat));conv=>whnf)
       refine cT rfl ?_;have lZ:=mD (x:=⟨w.cost+(mv.cost*16+1),y.aP,y.aO+1⟩) bf.ok.sorted (nk:=k) (mv:=iC E x) (fv:=.sl 4 (some q) (((aY (ez E x)).take t).map al)) (due:=false) dp (by omega) [(rb,.vec pq),(tb,ea (mO++ext))] [(q,.tok)] (hX++(hY++hC));rw [VW _ _ _ _ xR.1 (by omega)] at lZ;(conv=>whnf);repeat ((first|refine ⟨af ⟨by omega,by omega⟩,?_⟩|(refine ay.mono ?_ lZ)|refine And.intro (by show aJ (aH Tryz.f105 _) _=true;decide +kernel) ?_);conv=>whnf)
       have fw:zO (ez E x) t false (il ⟨w.cost+(mv.cost*16+1),y.aP,y.aO+1⟩ Q):=⟨bf.ok.push hy yn pa,by rw [vV];simp;omega,bf.asked⟩;clear bf dp;rintro v h1 ⟨rfl,ov,oh,dp,rfl⟩;obtain ⟨Q,HG⟩:∃ Q',Q'=il ⟨w.cost+(mv.cost*16+1),y.aP,y.aO+1⟩ Q:=⟨_,rfl⟩;rw [<- HG] at dp fw;have bf:=fw;(conv=>whnf);repeat ((refine ⟨_,_,.tail _ (.tail _ (.head _)),rfl,?_⟩);conv=>whnf)
       cases hQ:Q with
       | nil=>
         subst hQ;have dy:bW E x aO=.aQ [.agg pq,.bool false]:=by unfold bW;rw [me,uE bf.ok.empty nw]
         obtain ⟨tT,dx,eH⟩:=fin _ _ _ _ _ _ _ _ _ bf qU dp fA gY;rcases dp with ⟨_,rfl,rfl⟩|⟨ob,pr,rfl,rfl⟩
         all_goals
          (conv=>whnf);skip;refine cT rfl ?_;(conv=>whnf);repeat ((first|(refine ⟨_,_,.here _,aF,?_⟩)|refine ⟨_,_,.head _,rfl,?_⟩);conv=>whnf)
          refine ⟨px,kF,?_⟩;rw [<- oz];exact ⟨dy.symm,ext,_,fA,dx,iS ext,rb,_,List.Perm.cons _ (List.Perm.cons _ eH)⟩
       | cons z Q'=>
         rcases dp with ⟨h0,rfl,rfl⟩|⟨ob,pr,rfl,rfl⟩
         ·rw [hQ] at h0;cases h0
         subst hQ;obtain ⟨ga,fw⟩:=bf.ok.pop;have ch:=take_one ga;have dI:=bf.bE;have uF:(z::Q').length=Q'.length+1:=rfl;have vX:((aY (ez E x)).take t).length<=65:=(by omega);(conv=>whnf);skip;refine cF (decide_eq_false (by omega)) ?_;(conv=>whnf);repeat ((first|(refine ⟨_,_,.tail _ (.tail _ (.head _)),rfl,?_⟩)|(refine ⟨0,af ⟨rfl,by omega⟩,?_⟩)|(refine oe (i:=0) da (.tail _ (.tail _ (.tail _ (.tail _ (.head _))))) rfl rfl ?_)|refine And.intro (by show aJ (aH Tryz.f105 _) _=true;decide +kernel) ?_);conv=>whnf)
         first|refine ⟨Nat.le_of_ble_eq_true rfl,fun q'=>?_⟩|refine ⟨(by simp;unfold aV;omega),fun q'=>⟨_,.there (.there (.there (.here _))),?_⟩⟩
         (conv=>whnf);repeat ((first|refine ⟨af ⟨by omega,by omega⟩,?_⟩|(refine ⟨_,_,.there (.there (.here _)),aF,?_⟩)|(refine ⟨_,_,.tail _ (.tail _ (.head _)),rfl,?_⟩));conv=>whnf)
         have e1:pr.length+Int.toNat 1*4=(pr++al z).length:=by rw [List.length_append];rfl
         have e2:(((z::Q').length:Nat):Int).toNat - Int.toNat 1=Q'.length:=by rw [Int.toNat_natCast];rfl
         have e3:pr++((z::Q').map al).flatten=(pr++al z)++(Q'.map al).flatten:=(by simp);have gW:Q'.length+(if true=true then 1 else 0)<=60000:=by simp at dI ⊢;omega
         rw [e1,e2,e3]
         first
          | exact ⟨_,_,ar.refl _ _,_,(by omega),t+1,true,Q',_,[(q',.tok)],_,[(ob,_)],ext,hC,rfl,rfl,rfl,⟨fw,gW,by omega⟩,.inr ⟨q',by rw [ch,List.map_append];rfl,rfl⟩,.inr ⟨ob,pr++al z,rfl,rfl⟩,fA,gY⟩
          | exact ⟨_,_,ar.perm (List.perm_middle (l₁:=[_,_,_])).symm,_,(by omega),t+1,true,Q',_,[(q',.tok)],_,[(ob,_)],ext,hC,rfl,rfl,rfl,⟨fw,gW,by omega⟩,.inr ⟨q',by rw [ch,hF];rfl,rfl⟩,.inr ⟨ob,pr++al z,rfl,rfl⟩,fA,gY⟩
  obtain ⟨w,hw⟩:=aN (l:=(aY (ez E x)).take t) (i:=aO) (by omega);have pb:=hw;rw [List.getElem?_take_of_lt (by omega)] at pb;obtain ⟨tT,dx,eH⟩:=fin _ _ _ _ _ _ _ _ _ bf qU dp fA gY;(conv=>whnf);repeat ((first|refine ix (by assumption) ?_|(refine ⟨_,_,.tail _ (.tail _ (.head _)),rfl,?_⟩)|(refine ⟨_,_,.here _,aF,?_⟩)|refine ⟨_,_,.head _,rfl,?_⟩);conv=>whnf)
  refine ⟨px,kF,?_⟩;rw [<- oz];refine ⟨?_,ext,_,fA,dx,iS ext,rb,_,List.Perm.cons _ (List.Perm.cons _ eH)⟩;unfold bW;rw [me,pb];rfl
 rintro v h1 ⟨hv,ext,aZ,he,jj,kI,rb,o,eH⟩;refine ⟨v,_,⟨hv,ext,aZ,he,jj,kI,rfl⟩,ag.refl _,fun k o hm=>eH.mem_iff.2 (List.mem_cons_of_mem _ hm),fun hn=>?_⟩;have:=((eH.map (fun p:Nat × Ob=>p.1)).nodup_iff).1 hn;exact (List.nodup_cons.1 this).2
end Go.Abs.Wall.Spl
