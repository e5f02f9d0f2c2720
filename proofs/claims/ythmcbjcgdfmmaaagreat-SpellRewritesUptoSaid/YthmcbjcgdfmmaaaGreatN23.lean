/- Small laws for the walks and contracts of functions; each theorem names its conditions. -/
import Derived.Test.YthmcbjcgdfmmaaaGreatN22
import Derived.Test.YthmcbjcgdfmmaaaGreatN21
import Derived.Test.YthmcbjcgdfmmaaaGreatN9
import Derived.Test.YthmcbjcgdfmmaaaGreatN8
set_option maxRecDepth 100000
set_option maxHeartbeats 2000000
namespace Go.Abs.Wall.Spl
open Go Go.Abs Go.Proofs Go.Abs.Wall
open Go.Abs.Wall.Lst hiding al iW nG kQ ij dA nH lY nI nJ nK nL nM fj nO cm nP rH uc bW kS qB oO rI getAll
theorem getAll (E:Env) (hE:gk E):∀ (d:Nat) (x:bA),gY E x->(12 - x.n).toNat=d->kS E x/\FZ E x:=by
 intro d;induction d with
 | zero=>
   intro x hx hd;have hn:=hx.n;have IH:∀ y,gY E y->y.n=x.n+1->kS E y:=fun y hy gC=>by have:=hy.n;omega
   have hN:=Ps E hE x hx IH;exact ⟨rI E hE x hx hN IH,hN⟩
 | succ d ih=>
   intro x hx hd;have hn:=hx.n;have IH:∀ y,gY E y->y.n=x.n+1->kS E y:=fun y hy gC=>(ih y hy (by omega)).1;have hN:=Ps E hE x hx IH;exact ⟨rI E hE x hx hN IH,hN⟩
theorem ef.at {E:Env} {n:Int}:∀ {c:Nat} {d:Int} {es:fW} {hp:af},ef E c d es hp->d<=n->n<=12->∃ c' hA hB,hp=hA++hB/\ef E c' n es hB/\∀ ext xk,(∀ p∈ext,n<=p.1.n)->ef E c' n (es++ext) xk->ef E c d (es++ext) (hA++xk)
 | _,d,es,_,.done h,h1,h2=>by omega
 | _,d,es,_,.step (hA:=hA) (hB:=hB) nA nB,h1,h2=>by
   by_cases he:d=n
   ·subst he;exact ⟨_,[],_,rfl,.step nA nB,fun ext xk _ h=>h⟩
   obtain ⟨c',WJ,JX,e,k,f⟩:=ef.at (n:=n) nB (by omega) h2;refine ⟨c',hA++WJ,JX,by rw [e,List.append_assoc],k,fun ext xk hx h=>?_⟩;rw [List.append_assoc];exact .step (nA.more fun p hp=>by have:=hx p hp;omega) (f ext xk hx h)
theorem Pw {m:Nat × Ob} {A B C D:af}:(m::D++(A++(B++C))).Perm (A++m::(B++(C++D))):=by refine List.Perm.trans ?_ List.perm_middle.symm;refine List.Perm.cons _ ?_;refine List.Perm.trans List.perm_append_comm ?_;simp
theorem JY {E:Env} (hE:gk E) {x:bA} (hx:gY E x) {nb:Nat} {cv:AV} {es:fW} {c:Nat} {hp:af} {aO:Nat} (hn:ef E c 0 es hp) (hr:aO<=64) (A B:af) :
  aw Tryz.prog 60 [.ai (kW E (.omap nb) cv),.agg (ko x),.int .i64 aO] (A++(nb,eB es)::(B++hp))
   (fun v H'=>v=bW E x aO/\∃ ext aX,ef E c 0 (es++ext) aX/\(dP x (es++ext)).isSome=true/\H'=A++(nb,eB (es++ext))::(B++aX)):=by
 obtain ⟨c',hA,hB,rfl,k,f⟩:=hn.at hx.n.1 hx.n.2;refine aw.re ((getAll E hE _ x hx rfl).1 nb cv es c' hB aO k hr) (h2:=A++(B++hA)) Pw ?_;rintro v h1 ⟨hv,ext,aX,he,jm,gD,rfl⟩;exact ⟨_,Pw,hv,ext,hA++aX,f ext aX he jm,gD,rfl⟩
theorem Px {E:Env} {x:bA} {nb k:Nat} {cv:AV} {es:fW} (dh:dP x es=some k) {h:af} (hm:(nb,eB es)∈h) :
  ab Tryz.prog 61 [.ai (kW E (.omap nb) cv),.agg (ko x)] h (.ba k 0):=by
 refine aA (F:=Tryz.f61) c61 rfl rfl rfl mixed rfl fun X=>?_;(conv=>whnf);repeat ((first|(refine JT hm ?_)|refine And.intro (by show aJ (aH Tryz.f61 _) _=true;decide +kernel) ?_);conv=>whnf)
 rw [dh];refine cT rfl ?_;(conv=>whnf);skip;exact ⟨rfl,rfl⟩
theorem ef.node {E:Env} {x:bA} {k:Nat} (hx:gY E x) {c:Nat} {es:fW} {hp:af} (hn:ef E c 0 es hp) (dh:dP x es=some k):∃ fv ov due,(k,Ob.vec (cm (iL E x) fv ov due))∈hp:=by
 obtain ⟨c',hA,hB,rfl,nn,f⟩:=hn.at hx.n.1 hx.n.2;cases nn with
 | done h=>have:=hx.n;omega
 | step nA nB=>
   obtain ⟨hX,h1,hY,rfl,cz,_⟩:=nA.pick rfl dh;obtain ⟨t,due,Q,fv,fh,ov,oh,_,_,_,rfl⟩:=cz;exact ⟨fv,ov,due,by simp⟩
structure Spl where
 aK:List Int
 ay:List az
 cost:Int
deriving DecidableEq
def nV (p:Spl):List AV:=[.sl 1 none (ints p.aK),.sl 2 none (p.ay.map aU),.int .i64 p.cost]
def gm:bA:=⟨0,0,false,0⟩
def uC (E:Env) (w:Wy):Spl:=⟨(mT E gm w).map (·.sign),(mT E gm w).map (·.use),w.cost / 16⟩
def vK (E:Env) (aO:Nat):AV:=match (eA E gm)[aO]? with
 | none=>.aB [.agg [.aS,.aS,.int .i64 0],.bool false]
 | some w=>.aB [.agg (nV (uC E w)),.bool true]
theorem zm {E:Env}:gY E gm:=⟨⟨by decide,by decide⟩,⟨by decide,by show (0:Int)<=_;omega⟩,⟨by decide,by decide⟩⟩
def c31:av:=⟨[0,1,4,5,6,7,8,18,26],[],[8],[],[(7,[0,1,2,3,4,5,6,7,8,9,10,11],[8])],[]⟩
theorem WK (E:Env) (hE:gk E) (tb:Nat) (cv:AV) (es:fW) (c:Nat) (hp:af) (aO:Nat) (hr:aO<=64) (hN:ef E c 0 es hp) :
  aw Tryz.prog 31 [.ai (kW E (.omap tb) cv),.int .i64 aO] ((tb,eB es)::hp)
   (fun v h'=>v=vK E aO/\∃ ext aX,ef E c 0 (es++ext) aX/\h'=(tb,eB (es++ext))::aX):=by
 refine aw.post (R:=fun v h'=>∃ v',v'=vK E aO/\aa v v'/\∃ ext aX Z,ef E c 0 (es++ext) aX/\h'.Perm ((tb,eB (es++ext))::aX++Z)) ?_ ?_
 ·refine aA (F:=Tryz.f31) c31 rfl rfl rfl mixed rfl fun X=>?_;(conv=>whnf);repeat ((first|(intro (b7:Nat))|(refine aw.mono ?_ (JY hE zm hN hr [_,_] []))|refine ⟨_,_,.head _,rfl,?_⟩|refine ⟨_,_,.here _,aI,?_⟩);conv=>whnf)
  rintro v h' ⟨rfl,ext,aX,AP,gD,rfl⟩;clear hN;obtain ⟨mV,oV⟩:∃ e,e=es++ext:=⟨_,rfl⟩;rw [<- oV] at AP gD;rw [<- oV];cases hw:(eA E gm)[aO]? with
  | none=>
    have dI:bW E gm aO=.aB [.agg pJ,.bool false]:=by unfold bW;rw [hw]
    rw [dI];(conv=>whnf);repeat ((first|(intro (b7:Nat))|refine ⟨_,_,.here _,aI,?_⟩);conv=>whnf)
    refine cT rfl ?_;(conv=>whnf);repeat ((refine ⟨_,_,.there (.there (.here _)),aI,?_⟩);conv=>whnf)
    refine ⟨_,_,.tail _ (.tail _ (.head _)),rfl,?_⟩;refine ⟨_,rfl,?_,ext,aX,[_,_,_],by rw [<- oV];exact AP,by rw [<- oV];exact List.perm_append_comm (l₁:=[_,_,_])⟩;unfold vK;rw [hw];exact aa.refl _
  | some w0=>
    have dI:bW E gm aO=.aB [.agg (al w0),.bool true]:=by unfold bW;rw [hw]
    rw [dI];(conv=>whnf);repeat ((first|(intro (b7:Nat))|refine ⟨_,_,.here _,aI,?_⟩);conv=>whnf)
    refine cF rfl ?_;(conv=>whnf);repeat ((first|(refine ⟨_,_,.there (.there (.here _)),aI,?_⟩)|refine ⟨_,_,.head _,rfl,?_⟩);conv=>whnf)
    refine bD rfl mixed [0,4,6,7] [] (fun m r h=>∃ (x:bA) (ρ:Nat) (w:Wy) (L:List Mv) (sv uv:AV) (sh uh hp:af) (ext:fW) (wb xb ob:Nat),r=[(0,[],.ai (kW E (.omap tb) cv)),(4,[],.ba ob 0),(6,[],.ba xb 0),(7,[],.ba wb 0)]/\h=(wb,.vec (al w))::(xb,.vec (ko x))::(ob,.vec [sv,uv,.int .i64 (w0.cost / 16)])::(tb,eB (mV++ext))::(sh++(uh++hp))/\m=(13 - x.n).toNat/\gY E x/\(eA E x)[ρ]?=some w/\mT E gm w0=L++mT E x w/\(L.length:Int)=x.n/\ρ<=64/\ef E c 0 (mV++ext) hp/\(dP x (mV++ext)).isSome=true/\((L=[]/\sv=.aS/\uv=.aS/\sh=[]/\uh=[])\/∃ q1 q2,sv=.sl 1 (some q1) (ints (L.map (·.sign)))/\uv=.sl 2 (some q2) (L.map fun m=>aU m.use)/\sh=[(q1,.tok)]/\uh=[(q2,.tok)])) ?_ ?_
    ·(conv=>whnf);exact ⟨_,_,ah.refl _ _,_,gm,aO,w0,[],.aS,.aS,[],[],aX,[],_,_,_,rfl,by rw [List.append_nil];rfl,rfl,zm,hw,rfl,rfl,hr,by rw [List.append_nil];exact AP,by rw [List.append_nil];exact gD,.inl ⟨rfl,rfl,rfl,rfl,rfl⟩⟩
    clear AP;rintro m r h' ⟨x,ρ,w,L,sv,uv,sh,uh,hp,gZ,wb,xb,ob,rfl,rfl,rfl,hx,oP,hL,fw,hρ,hN,gD,ho⟩;have hn:=hx.n;(conv=>whnf);repeat (refine ⟨_,_,.head _,rfl,?_⟩;conv=>whnf)
    refine ⟨fun hz=>?_,fun hz=>?_⟩<;>simp at hz
    ·obtain ⟨m,w',hm,bI,kR,ft,hc,rB⟩:=wP hE hx oP (by omega);have cz:=bI.next;have kj:(ints (L.map (·.sign))).length=L.length:=(by simp [ints]);have cX:(L.map fun m=>aU m.use).length=L.length:=(by simp);have CF:bW E m.to w.aO=.aB [.agg (al w'),.bool true]:=by unfold bW;rw [kR]
     obtain ⟨k,dh⟩:=Option.isSome_iff_exists.1 gD;obtain ⟨fv,ov,due,hk⟩:=hN.node hx dh;rcases ho with ⟨Dk,rfl,rfl,rfl,rfl⟩|⟨q1,q2,rfl,rfl,rfl,rfl⟩
     ·have Dl:=Px (E:=E) (cv:=cv) dh (h:=(wb,Ob.vec (al w))::(xb,.vec (ko x))::(ob,.vec [.aS,.aS,.int .i64 (w0.cost / 16)])::(tb,eB (mV++gZ))::([]++([]++hp))) (.tail _ (.tail _ (.tail _ (.head _))));(conv=>whnf);repeat ((first|(refine ⟨.ba k 0,ag Dl,?_⟩)|(refine ⟨_,_,.tail _ (.tail _ (.tail _ (.tail _ hk))),rfl,?_⟩)|(refine cp (enc:=vD) (w.aR - 1) (by omega) hm ?_)|(refine ⟨_,_,.tail _ (.tail _ (.head _)),rfl,?_⟩)|(refine ⟨_,_,.tail _ (.tail _ (.tail _ (.head _))),rfl,?_⟩)|(refine ⟨Nat.le_of_ble_eq_true rfl,fun q=>?_⟩)|(refine ⟨_,_,.there (.there (.there (.here _))),aI,?_⟩)|(refine ⟨_,_,.there (.there (.there (.there (.here _)))),aI,?_⟩)|refine ⟨_,_,bj.here _,?_⟩|refine ⟨_,_,.head _,rfl,?_⟩|refine ⟨_,_,.tail _ (.head _),rfl,?_⟩|refine ⟨_,_,.here _,aI,?_⟩|refine And.intro (by show aJ (aH Tryz.f31 _) _=true;decide +kernel) ?_|intro (nb:Nat));conv=>whnf)
      rename_i q1;refine aw.mono ?_ (JY hE bI.to hN (aO:=w.aO) (by omega) [(q,.tok),(q1,.tok),(wb,.vec (al w)),(xb,.vec (ko m.to)),(ob,.vec [.sl 1 (some q1) [[.int .i64 m.sign]],.sl 2 (some q) [aU m.use],.int .i64 (w0.cost / 16)])] []);clear hN gD Dl hk;rintro v h' ⟨rfl,zl,zn,Dm,Dn,rfl⟩;have Dp:=List.append_assoc mV gZ zl;rw [Dp] at Dm Dn;rw [CF,Dp];(conv=>whnf);repeat ((refine ⟨_,_,.there (.there (.here _)),aI,?_⟩);conv=>whnf)
      refine ⟨_,_,ah.perm (List.Perm.append_right zn ((List.Perm.swap _ _ _).trans (List.perm_append_comm (l₁:=[(q1,Ob.tok),(q,.tok)]) (l₂:=[_,_,_,_])))),_,(by omega),m.to,w.aO,w',L++[m],.sl 1 (some q1) [[.int .i64 m.sign]],.sl 2 (some q) [aU m.use],[(q1,.tok)],[(q,.tok)],zn,gZ++zl,wb,xb,ob,rfl,rfl,rfl,bI.to,kR,by rw [hL,ft,List.append_assoc];rfl,by rw [List.length_append];simp;omega,by omega,Dm,Dn,.inr ⟨q1,q,by rw [Dk];rfl,by rw [Dk];rfl,rfl,rfl⟩⟩
     have Dl:=Px (E:=E) (cv:=cv) dh (h:=(wb,Ob.vec (al w))::(xb,.vec (ko x))::(ob,.vec [.sl 1 (some q1) (ints (L.map (·.sign))),.sl 2 (some q2) (L.map fun m=>aU m.use),.int .i64 (w0.cost / 16)])::(tb,eB (mV++gZ))::([(q1,.tok)]++([(q2,.tok)]++hp))) (.tail _ (.tail _ (.tail _ (.head _))));have bg:(k,Ob.vec (cm (iL E x) fv ov due))∈[(q1,Ob.tok)]++([(q2,.tok)]++hp):=.tail _ (.tail _ hk);(conv=>whnf);repeat ((first|(refine ⟨.ba k 0,ag Dl,?_⟩)|(refine ⟨_,_,.tail _ (.tail _ (.tail _ (.tail _ bg))),rfl,?_⟩)|(refine cp (enc:=vD) (w.aR - 1) (by omega) hm ?_)|(refine ⟨_,_,.tail _ (.tail _ (.head _)),rfl,?_⟩)|(refine ⟨(by rw [List.length_append,kj];simp;unfold aN;omega),fun q=>⟨_,.there (.there (.there (.there (.here _)))),?_⟩⟩)|(refine ⟨(by rw [List.length_append,cX];simp;unfold aN;omega),fun q=>⟨_,.there (.there (.there (.there (.there (.here _))))),?_⟩⟩)|(refine ⟨_,_,.there (.there (.here _)),aI,?_⟩)|(refine ⟨_,_,.there (.here _),aI,?_⟩)|refine ⟨_,_,bj.here _,?_⟩|refine ⟨_,_,.head _,rfl,?_⟩|refine ⟨_,_,.tail _ (.head _),rfl,?_⟩|refine ⟨_,_,.here _,aI,?_⟩|refine And.intro (by show aJ (aH Tryz.f31 _) _=true;decide +kernel) ?_|intro (nb:Nat));conv=>whnf)
     rename_i qa;refine aw.mono ?_ (JY hE bI.to hN (aO:=w.aO) (by omega) [(wb,.vec (al w)),(xb,.vec (ko m.to)),(ob,.vec [.sl 1 (some qa) (ints (L.map (·.sign))++[[.int .i64 m.sign]]),.sl 2 (some q) (L.map (fun m=>aU m.use)++[aU m.use]),.int .i64 (w0.cost / 16)])] [(qa,.tok),(q,.tok)]);clear hN gD Dl hk bg;rintro v h' ⟨rfl,zl,zn,Dm,Dn,rfl⟩;have Dp:=List.append_assoc mV gZ zl;rw [Dp] at Dm Dn;rw [CF,Dp];(conv=>whnf);repeat ((refine ⟨_,_,.here _,aI,?_⟩);conv=>whnf)
     refine ⟨_,_,ah.refl _ _,_,(by omega),m.to,w.aO,w',L++[m],.sl 1 (some qa) (ints (L.map (·.sign))++[[.int .i64 m.sign]]),.sl 2 (some q) (L.map (fun m=>aU m.use)++[aU m.use]),[(qa,.tok)],[(q,.tok)],zn,gZ++zl,wb,xb,ob,rfl,rfl,rfl,bI.to,kR,by rw [hL,ft,List.append_assoc];rfl,by rw [List.length_append];simp;omega,by omega,Dm,Dn,.inr ⟨qa,q,by unfold ints;rw [List.map_append,List.map_append];rfl,by rw [List.map_append];rfl,rfl,rfl⟩⟩
    have dJ:w.aR=0:=(by omega);obtain ⟨hD,_,_⟩:=FY hE hx oP dJ;(conv=>whnf);repeat ((first|(refine ⟨_,_,.tail _ (.tail _ (.head _)),rfl,?_⟩)|(refine ⟨_,_,.there (.there (.here _)),aI,?_⟩));conv=>whnf)
    refine ⟨_,rfl,?_,ext++gZ,hp,((wb,.vec (al w))::(xb,.vec (ko x))::(ob,.vec [sv,uv,.int .i64 (w0.cost / 16)])::(sh++uh)),by rw [<- List.append_assoc,<- oV];exact hN,?_⟩
    ·unfold vK;rw [hw];have mD:mT E gm w0=L:=(by rw [hL,hD,List.append_nil]);show aa _ (.aB [.agg (nV (uC E w0)),.bool true]);unfold uC nV;rw [mD];refine aa.aB (.cons (aa.agg ?_) (.cons (aa.refl _) .nil));rcases ho with ⟨rfl,rfl,rfl,rfl,rfl⟩|⟨q1,q2,rfl,rfl,rfl,rfl⟩
     ·exact .cons (aa.nil (by decide)) (.cons (aa.nil (by decide)) (.cons (aa.refl _) .nil))
     refine .cons aa.sl (.cons ?_ (.cons (aa.refl _) .nil));rw [List.map_map];exact aa.sl
    have rQ:es++(ext++gZ)=mV++gZ:=(by rw [<- List.append_assoc,<- oV]);rw [rQ];refine List.Perm.trans ?_ (List.perm_append_comm (l₁:=(wb,.vec (al w))::(xb,.vec (ko x))::(ob,.vec [sv,uv,.int .i64 (w0.cost / 16)])::(sh++uh)) (l₂:=(tb,eB (mV++gZ))::hp));simp only [List.cons_append,List.append_assoc];exact List.Perm.cons _ (List.Perm.cons _ (List.Perm.cons _ (by rw [<- List.append_assoc,<- List.append_assoc];exact List.perm_middle.symm)))
 rintro v h1 ⟨v',rfl,hv,ext,aX,Z,jm,eS⟩;refine ⟨_,_,⟨rfl,ext,aX,jm,rfl⟩,hv,fun k o hm=>eS.mem_iff.2 (List.mem_append_left _ hm),fun hn=>?_⟩;have:=((eS.map (fun p:Nat × Ob=>p.1)).nodup_iff).1 hn;unfold keys;rw [List.map_append] at this;exact (List.nodup_append.1 this).1
end Go.Abs.Wall.Spl
namespace Go.Abs.Wall.Spl
open Go Go.Abs Go.Proofs Go.Abs.Wall
def rR (n:Int):Bool:=!bL n (-1) 1000
def lM (H:aD) (B:bE):Bool:=((decide ((B.aK.length:Int)=H.list.aK.length)&&bL B.cV 0 2)&&bL B.cls 0 2)&&!B.aK.any rR
def kr (H:aD) (B:bE):Int:=if fA H≠0 then fA H else if lM H B=true then 0 else 60
structure lN (B:bE):Prop where
 aK:B.aK.length<=1048576
def c82:av:=⟨[0,1,4,5,7,8,9,16],[],[],[],[],[]⟩
def c40:av:=⟨[0,1,4],[],[],[],[],[]⟩
def c126:av:=⟨[0,1,4,5,7,8,9,16],[],[],[],[],[]⟩
def c84:av:=⟨[0,1,4],[],[],[],[],[]⟩
def c30:av:=⟨[0,1,2,6],[],[],[],[],[]⟩
def c64:av:=⟨[0,2],[],[],[],[],[]⟩
def c34:av:=⟨[0,1,2,3,4],[],[],[],[],[]⟩
def c15:av:=⟨[0,1,2,3,4,5,9,14],[],[],[],[],[]⟩
theorem Py (l:List Int) (hl:l.length<=aq) (f:FuncId) (bP:List AV) (p:Int->Bool) (hp:∀ w∈l,ab Tryz.prog f (.int .i64 w::bP) [] (.bool (p w))) :
  ab Tryz.prog 40 [.sl 1 none (ints l),.fn f bP] [] (.bool (l.any p)):=by
 have hi:ab Tryz.prog 82 [.sl 1 none (ints l),.fn f bP] [] (.int .i64 (kX p l)):=by
  refine aA (F:=Tryz.f82) c82 rfl rfl rfl mixed rfl fun X=>?_;(conv=>whnf);unfold aq at hl;refine bS rfl mixed [0,1,7,8] [] (fun m r h=>∃ (i:Nat),r=[(0,[],.sl 1 none (ints l)),(1,[],.fn f bP),(7,[],.int .i64 (ints l).length),(8,[],.int .i64 i)]/\h=[]/\m=l.length - i/\i<=l.length/\Below p l i) ?_ ?_
  ·(conv=>whnf);exact ⟨_,0,rfl,rfl,rfl,by omega,.zero⟩
  rintro m r h ⟨i,rfl,rfl,rfl,hi,hg⟩;(conv=>whnf);refine ⟨fun hc=>?_,fun hc=>?_⟩<;>simp [cO] at hc
  ·obtain ⟨x,hx⟩:=aF hc;(conv=>whnf);repeat ((first|refine ix (by assumption) ?_|(refine ab.k0 (hp x (List.mem_of_getElem? hx)) ?_));conv=>whnf)
   refine ⟨fun hd=>?_,fun hd=>?_⟩
   ·(conv=>whnf);exact ⟨by rw [hg.at hx hd],rfl⟩
   (conv=>whnf);repeat (refine ⟨ag ⟨by omega,by omega⟩,?_⟩;conv=>whnf)
   exact ⟨_,by omega,i+1,rfl,rfl,rfl,by omega,hg.succ hx hd⟩
  (conv=>whnf);exact ⟨by rw [hg.end hc],rfl⟩
 refine aA (F:=Tryz.f40) c40 rfl rfl rfl mixed rfl fun X=>?_;(conv=>whnf);refine ab.k0 hi ?_;(conv=>whnf);exact ⟨congrArg AV.bool (zo p l),rfl⟩
theorem WL (l:List az) (hl:l.length<=aq) (f:FuncId) (bP:List AV) (p:az->Bool) (hp:∀ w∈l,ab Tryz.prog f (.agg (aU w)::bP) [] (.bool (p w))) :
  ab Tryz.prog 84 [.sl 2 none (l.map aU),.fn f bP] [] (.bool (l.any p)):=by
 have hi:ab Tryz.prog 126 [.sl 2 none (l.map aU),.fn f bP] [] (.int .i64 (kX p l)):=by
  refine aA (F:=Tryz.f126) c126 rfl rfl rfl mixed rfl fun X=>?_;(conv=>whnf);unfold aq at hl;refine bS rfl mixed [0,1,7,8] [] (fun m r h=>∃ (i:Nat),r=[(0,[],.sl 2 none (l.map aU)),(1,[],.fn f bP),(7,[],.int .i64 (l.map aU).length),(8,[],.int .i64 i)]/\h=[]/\m=l.length - i/\i<=l.length/\Below p l i) ?_ ?_
  ·(conv=>whnf);exact ⟨_,0,rfl,rfl,rfl,by omega,.zero⟩
  rintro m r h ⟨i,rfl,rfl,rfl,hi,hg⟩;(conv=>whnf);refine ⟨fun hc=>?_,fun hc=>?_⟩<;>simp at hc
  ·obtain ⟨x,hx⟩:=aF hc;(conv=>whnf);repeat ((first|refine ix (by assumption) ?_|(refine ab.k0 (hp x (List.mem_of_getElem? hx)) ?_));conv=>whnf)
   refine ⟨fun hd=>?_,fun hd=>?_⟩
   ·(conv=>whnf);exact ⟨by rw [hg.at hx hd],rfl⟩
   (conv=>whnf);repeat (refine ⟨ag ⟨by omega,by omega⟩,?_⟩;conv=>whnf)
   exact ⟨_,by omega,i+1,rfl,rfl,rfl,by omega,hg.succ hx hd⟩
  (conv=>whnf);exact ⟨by rw [hg.end hc],rfl⟩
 refine aA (F:=Tryz.f84) c84 rfl rfl rfl mixed rfl fun X=>?_;(conv=>whnf);refine ab.k0 hi ?_;(conv=>whnf);exact ⟨congrArg AV.bool (zo p l),rfl⟩
theorem JZ (n lo hi:Int):ab Tryz.prog 30 [.int .i64 n,.int .i64 lo,.int .i64 hi] [] (.bool (bL n lo hi)):=by refine aA (F:=Tryz.f30) c30 rfl rfl rfl mixed rfl fun X=>?_;(conv=>whnf);skip;exact ⟨rfl,rfl⟩
theorem WM (n:Int):ab Tryz.prog 64 [.int .i64 n] [] (.bool (rR n)):=by
 refine aA (F:=Tryz.f64) c64 rfl rfl rfl mixed rfl fun X=>?_;(conv=>whnf);repeat (refine ab.k0 (JZ _ _ _) ?_;conv=>whnf)
 exact ⟨rfl,rfl⟩
theorem WN (H:aD) (B:bE) (hB:lN B):ab Tryz.prog 34 [.agg (aZ H),.agg (dO B)] [] (.bool (lM H B)):=by
 have hb:=hB.aK;have FU:=Py B.aK (by unfold aq;omega) 64 [] rR fun n _=>WM n;have he:lM H B=(((decide (((ints B.aK).length:Int)=((H.list.aK.map hZ).length:Int))&&bL B.cV 0 2)&&bL B.cls 0 2)&&!B.aK.any rR):=by unfold lM;rw [cO,List.length_map]
 rw [he];refine aA (F:=Tryz.f34) c34 rfl rfl rfl mixed rfl fun X=>?_;(conv=>whnf);repeat ((first|refine aY (JZ _ _ _) ?_|refine aY (FU) ?_);conv=>whnf)
 exact ⟨rfl,rfl⟩
theorem Gb (H:aD) (B:bE) (hf:dx H) (hB:lN B):ab Tryz.prog 15 [.agg (aZ H),.agg (dO B)] [] (.int .i64 (kr H B)):=by
 refine aA (F:=Tryz.f15) c15 rfl rfl rfl mixed rfl fun X=>?_;(conv=>whnf);repeat (refine ab.k0 (Ka H hf) ?_;conv=>whnf)
 refine ⟨fun h0=>?_,fun h0=>?_⟩<;>simp at h0
 ·rw [kr,if_pos h0];(conv=>whnf);exact ⟨rfl,rfl⟩
 rw [kr,if_neg (by omega)];(conv=>whnf);repeat (refine ab.k0 (WN H B hB) ?_;conv=>whnf)
 refine ⟨fun h1=>?_,fun h1=>?_⟩
 ·have h1:(!lM H B)=true:=h1;rw [Bool.not_eq_true'] at h1;rw [if_neg (by rw [h1];decide)];(conv=>whnf);exact ⟨rfl,rfl⟩
 have h1:(!lM H B)=false:=h1;rw [Bool.not_eq_false'] at h1;rw [if_pos h1];(conv=>whnf);exact ⟨rfl,rfl⟩
theorem Dq {H:aD} {B:bE} (h:kr H B=0):fA H=0/\lM H B=true:=by
 unfold kr at h;split at h
 ·rename_i h1;exact absurd h h1
 rename_i h1;split at h
 ·rename_i h2;exact ⟨by omega,h2⟩
 cases h
end Go.Abs.Wall.Spl
namespace Go.Abs.Wall.Spl
open Go Go.Abs Go.Proofs Go.Abs.Wall
open Go.Abs.Wall.Lst hiding al iW nG kQ ij dA nH lY nI nJ nK nL nM fj nO cm nP
structure RS where
 part:Int
 done:Int
 last:Int
 cls:Bool
deriving DecidableEq
def partAt (P:List (List UInt8)) (p:Int):List UInt8:=P.getD p.toNat []
def nW (P:List (List UInt8)) (s:RS):Bool:=decide (s.done=(partAt P s.part).length)
def vL (E:Env) (s:RS):Bool:=decide (E.B.cV=2)&&decide (0<s.last)
def xm (P:List (List UInt8)) (s:RS):List UInt8:=(P.take s.part.toNat).flatten++(partAt P s.part).take s.done.toNat
def rS (E:Env) (P:List (List UInt8)) (s:RS) (u:az) (first:Bool):RS × Bool:=
 if (vL E s&&!decide (u.kind=3))=true then (s,false)
 else if u.kind=1 then
  if nW P s=false then (⟨s.part,s.done+u.text.length,ee u,s.cls⟩,fN ((partAt P s.part).drop s.done.toNat) u.text)
  else (⟨s.part+1,u.text.length,ee u,s.cls⟩,decide (s.part+1<P.length)&&fN (partAt P (s.part+1)) u.text)
 else if u.kind=2 then (⟨s.part,u.text.length,ee u,s.cls⟩,first&&decide (u.text=E.dY.root))
 else if u.kind=3 then (⟨s.part,s.done,0,s.cls⟩,(!decide (E.B.cV=0)&&decide ((u.text.length:Int)<=s.last))&&oT (xm P s) u.text)
 else if u.kind=4 then (⟨s.part,s.done,0,true⟩,((((!decide (E.B.cls=0))&&nW P s)&&decide (s.part=0))&&!s.cls)&&(!decide (E.dY.cls=[])&&decide (u.text=E.dY.cls)))
 else (⟨s.part,s.done,0,s.cls⟩,false)
def xn (E:Env) (P:List (List UInt8)) (s:RS):Bool:=
 ((decide (s.part=(P.length:Int) - 1)&&nW P s)&&!((decide (E.B.cls=2)&&!decide (E.dY.cls=[]))&&!s.cls))&&!vL E s
def ia:List (List UInt8)->Int->List Int
 | [],_=>[]
 | t::r,a=>(a+t.length)::ia r (a+t.length)
def bO (P:List (List UInt8)) (p:Int):Int:=((P.take p.toNat).flatten.length:Int)
def toS (P:List (List UInt8)) (n:Int) (s:RS):bA:=⟨n,bO P s.part+s.done,s.cls,s.last⟩
structure Can (P:List (List UInt8)) (s:RS):Prop where
 part:0<=s.part/\s.part<P.length
 done:0<=s.done/\s.done<=(partAt P s.part).length
 pos:0<s.part->0<s.done
structure nX (E:Env) (P:List (List UInt8)):Prop where
 snd:E.snd=P.flatten
 eo:E.eo=ia P 0
 ne:P≠[]
 pos:∀ (i:Nat) t,P[i+1]?=some t->0<t.length
 root:E.dY.root.length<=(partAt P 0).length
 text:∀ us∈E.ay,∀ u∈us,0<u.text.length
 mf:E.mf=if E.dY.cls=[] then 0 else E.H.cC.oW
theorem ti {P:List (List UInt8)} {p:Int} (h0:0<=p) (h:p<P.length):bO P (p+1)=bO P p+(partAt P p).length:=by obtain ⟨n,rfl⟩:=Int.eq_ofNat_of_zero_le h0;have hn:n<P.length:=(by omega);unfold bO partAt;rw [show ((n:Int)+1).toNat=n+1 by omega,Int.toNat_natCast];obtain ⟨t,ht⟩:=aF hn;rw [List.getD_eq_getElem?_getD,ht,cN ht,List.flatten_append,List.length_append];simp
theorem vM {P:List (List UInt8)} {p q:Int} (h0:0<=p) (h:p<=q):bO P p<=bO P q:=by
 obtain ⟨n,rfl⟩:=Int.eq_ofNat_of_zero_le h0;obtain ⟨d,hd⟩:=Int.eq_ofNat_of_zero_le (a:=q - n) (by omega);obtain rfl:q=n+d:=by omega
 unfold bO;rw [show ((n:Int)+d).toNat=n+d by omega,Int.toNat_natCast,List.take_add,List.flatten_append,List.length_append];omega
theorem Gc (P:List (List UInt8)):bO P 0=0:=rfl
theorem AQ (P:List (List UInt8)):bO P P.length=(P.flatten.length:Int):=by unfold bO;rw [Int.toNat_natCast,List.take_length]
theorem Pz:∀ (P:List (List UInt8)) (a x:Int) (n:Nat),n<P.length->a+bO P n<=x->x<a+bO P (n+1)->ja (ia P a) x=a+bO P (n+1)
 | [],a,x,n,h,_,_=>by simp at h
 | t::r,a,x,0,h,h1,h2=>by
   have ho:bO (t::r) ((0:Nat)+1)=t.length:=by unfold bO;simp
   rw [ho] at h2 ⊢;rw [ia,ja,if_pos h2]
 | t::r,a,x,n+1,h,h1,h2=>by
   have ho:∀ m:Nat,bO (t::r) (m+1)=t.length+bO r m:=by intro m;unfold bO;rw [show ((m:Int)+1).toNat=m+1 by omega];simp
   have h3:=ho n;have h4:=ho (n+1);have h5:=ho (n+1);simp only [List.length_cons] at h;push_cast at h1 h2 h4 ⊢;rw [h3] at h1;rw [h4] at h2 ⊢;have hz:0<=bO r n:=by unfold bO;omega
   rw [ia,ja,if_neg (by omega),Pz r (a+t.length) x n (by omega) (by omega) (by omega)];omega
theorem PA:∀ (P:List (List UInt8)) (a x:Int),a+P.flatten.length<=x->ja (ia P a) x=x
 | [],a,x,_=>rfl
 | t::r,a,x,h=>by rw [List.flatten_cons,List.length_append] at h;rw [ia,ja,if_neg (by omega),PA r (a+t.length) x (by push_cast at h;omega)]
theorem Gd {t w:List UInt8}:fN t w=true↔w <+: t:=by
 unfold fN;rw [Bool.and_eq_true,decide_eq_true_eq,decide_eq_true_eq];constructor
 ·rintro ⟨_,h⟩;exact List.prefix_iff_eq_take.2 h.symm
 intro h;exact ⟨by have:=h.length_le;omega,(List.prefix_iff_eq_take.1 h).symm⟩
theorem PB {A B w:List UInt8}:(decide (w.length<=A.length)&&fN (A++B) w)=fN A w:=by
 rw [Bool.eq_iff_iff,Bool.and_eq_true,decide_eq_true_eq,Gd,Gd];constructor
 ·rintro ⟨h1,h2⟩;exact List.prefix_of_prefix_length_le h2 (List.prefix_append A B) h1
 intro h;exact ⟨h.length_le,h.trans (List.prefix_append A B)⟩
theorem Kb {P:List (List UInt8)} {n:Nat} {t:List UInt8} (h:P[n]?=some t):P.flatten=(P.take n).flatten++(t++(P.drop (n+1)).flatten):=by
 conv=>lhs;rw [<- List.take_append_drop n P,drop_cons h]
 rw [List.flatten_append,List.flatten_cons]
theorem WO {P:List (List UInt8)} {s:RS} (hc:Can P s):P.flatten.drop (bO P s.part+s.done).toNat=(partAt P s.part).drop s.done.toNat++(P.drop (s.part.toNat+1)).flatten:=by
 have h1:=hc.part;have h2:=hc.done;obtain ⟨t,ht⟩:=aF (l:=P) (i:=s.part.toNat) (by omega);have hp:partAt P s.part=t:=by unfold partAt;rw [List.getD_eq_getElem?_getD,ht];rfl
 rw [hp] at h2 ⊢;rw [Kb ht];have hl:(bO P s.part+s.done).toNat=((P.take s.part.toNat).flatten).length+s.done.toNat:=by unfold bO;omega
 rw [hl,List.drop_append,List.drop_eq_nil_of_le (by omega),List.nil_append];rw [show (P.take s.part.toNat).flatten.length+s.done.toNat - (P.take s.part.toNat).flatten.length=s.done.toNat by omega,List.drop_append_of_le_length (by omega)]
theorem PC {P:List (List UInt8)} {s:RS} (hc:Can P s):P.flatten.take (bO P s.part+s.done).toNat=xm P s:=by
 have h1:=hc.part;have h2:=hc.done;obtain ⟨t,ht⟩:=aF (l:=P) (i:=s.part.toNat) (by omega);have hp:partAt P s.part=t:=by unfold partAt;rw [List.getD_eq_getElem?_getD,ht];rfl
 unfold xm;rw [hp] at h2 ⊢;rw [Kb ht];have hl:(bO P s.part+s.done).toNat=((P.take s.part.toNat).flatten).length+s.done.toNat:=by unfold bO;omega
 rw [hl,List.take_append,List.take_of_length_le (by omega)];rw [show (P.take s.part.toNat).flatten.length+s.done.toNat - (P.take s.part.toNat).flatten.length=s.done.toNat by omega,List.take_append_of_le_length (by omega)]
theorem toS_inj {P:List (List UInt8)} {n:Int} {s t:RS} (hs:Can P s) (ht:Can P t) (h:toS P n s=toS P n t):s=t:=by
 have h1:=hs.part;have h2:=hs.done;have h3:=ht.part;have h4:=ht.done;obtain ⟨p,d,l,c⟩:=s;obtain ⟨p2,d2,l2,c2⟩:=t;unfold toS at h;simp only [bA.mk.injEq] at h;obtain ⟨_,h5,rfl,rfl⟩:=h;simp only at h1 h2 h3 h4 h5;have ha:=ti h1.1 h1.2;have hb:=ti h3.1 h3.2;have eb:=hs.pos;have PD:=ht.pos;simp only at eb PD;by_cases e:p=p2
 ·subst e;have:d=d2:=(by omega);rw [this]
 by_cases e2:p<p2
 ·have:=vM (P:=P) (p:=p+1) (q:=p2) (by omega) (by omega);have:=PD (by omega);omega
 have:=vM (P:=P) (p:=p2+1) (q:=p) (by omega) (by omega);have:=eb (by omega);omega
theorem nX.len {E:Env} {P:List (List UInt8)} (h:nX E P):0<P.length:=List.length_pos_iff.2 h.ne
theorem nX.PE {E:Env} {P:List (List UInt8)} (h:nX E P) {p:Int} (h0:0<p) (h1:p<P.length):0<(partAt P p).length:=by obtain ⟨i,hi⟩:=Int.eq_ofNat_of_zero_le (a:=p - 1) (by omega);obtain ⟨t,ht⟩:=aF (l:=P) (i:=i+1) (by omega);have:=h.pos i t ht;unfold partAt;rw [show p.toNat=i+1 by omega,List.getD_eq_getElem?_getD,ht];exact this
theorem nX.head {E:Env} {P:List (List UInt8)} (h:nX E P):E.eo.headD 0=(partAt P 0).length:=by
 rw [h.eo];have:=h.ne;cases P with
 | nil=>exact absurd rfl this
 | cons t r=>
   show (0:Int)+t.length=t.length;omega
theorem nX.PF {E:Env} {P:List (List UInt8)} (h:nX E P) {p x:Int} (h0:0<=p) (h1:p<P.length) (h2:bO P p<=x) (h3:x<bO P (p+1)):ja E.eo x=bO P (p+1):=by obtain ⟨n,rfl⟩:=Int.eq_ofNat_of_zero_le h0;rw [h.eo,Pz P 0 x n (by omega) (by omega) (by omega)];omega
theorem WQ {E:Env} {P:List (List UInt8)} (hP:nX E P) {n:Int} {s:RS} (hc:Can P s) (hn:n=0->s.part=0) {u:az} (hu:0<u.text.length) :
  (rS E P s u (decide (n=0))).2=(bk E (toS P n s) u).2/\((bk E (toS P n s) u).2=true->toS P (n+1) (rS E P s u (decide (n=0))).1=(bk E (toS P n s) u).1/\Can P (rS E P s u (decide (n=0))).1):=by
 have h1:=hc.part;have h2:=hc.done;have Ge:=ti h1.1 h1.2;unfold rS bk;have hm:(vL E s&&!decide (u.kind=3))=((decide (E.B.cV=2)&&decide (0<(toS P n s).hv))&&!decide (u.kind=3)):=rfl;rw [<- hm];by_cases h0:(vL E s&&!decide (u.kind=3))=true
 ·rw [if_pos h0,if_pos h0];exact ⟨rfl,fun h=>by cases h⟩
 rw [if_neg h0,if_neg h0];by_cases k1:u.kind=1
 ·rw [if_pos k1,if_pos k1];by_cases hw:nW P s=false
  ·rw [if_pos hw];have aP:s.done<(partAt P s.part).length:=by unfold nW at hw;have:=of_decide_eq_false hw;omega
   have he:ja E.eo (toS P n s).at_=bO P (s.part+1):=hP.PF h1.1 h1.2 (by show bO P s.part<=bO P s.part+s.done;omega) (by show bO P s.part+s.done<_;omega);have hb:fN ((partAt P s.part).drop s.done.toNat) u.text=uB E.snd u.text (toS P n s).at_ (ja E.eo (toS P n s).at_):=by rw [he];unfold uB;rw [hP.snd];show _=(decide (bO P s.part+s.done+u.text.length<=_)&&fN (P.flatten.drop (bO P s.part+s.done).toNat) u.text);rw [WO hc,Ge,<- PB (A:=(partAt P s.part).drop s.done.toNat) (B:=(P.drop (s.part.toNat+1)).flatten)];congr 1;rw [List.length_drop];exact decide_eq_decide.2 (by omega)
   refine ⟨hb,fun ht=>⟨?_,?_⟩⟩
   ·show (⟨n+1,bO P s.part+(s.done+u.text.length),s.cls,ee u⟩:bA)=⟨n+1,bO P s.part+s.done+u.text.length,s.cls,ee u⟩;rw [Int.add_assoc]
   have ht:=hb.trans ht;have:=(Gd.1 ht).length_le;rw [List.length_drop] at this;exact ⟨h1,⟨by show 0<=s.done+(u.text.length:Int);omega,by show s.done+(u.text.length:Int)<=((partAt P s.part).length:Int);omega⟩,fun _=>by show 0<s.done+(u.text.length:Int);omega⟩
  rw [if_neg hw];have R5:s.done=(partAt P s.part).length:=by unfold nW at hw;exact of_decide_eq_true (by simpa using hw)
  have cK:(toS P n s).at_=bO P (s.part+1):=by show bO P s.part+s.done=_;omega
  by_cases hl:s.part+1<P.length
  ·have mN:=ti (P:=P) (p:=s.part+1) (by omega) hl;have R6:=hP.PE (p:=s.part+1) (by omega) hl;have he:ja E.eo (toS P n s).at_=bO P (s.part+1+1):=hP.PF (by omega) hl (by rw [cK];exact Int.le_refl _) (by rw [cK];omega);have cQ:Can P ⟨s.part+1,0,0,false⟩->False->True:=fun _ _=>trivial
   have hd:P.flatten.drop (bO P (s.part+1)).toNat=partAt P (s.part+1)++(P.drop ((s.part+1).toNat+1)).flatten:=by
    obtain ⟨t,ht⟩:=aF (l:=P) (i:=(s.part+1).toNat) (by omega);have hp:partAt P (s.part+1)=t:=by unfold partAt;rw [List.getD_eq_getElem?_getD,ht];rfl
    rw [hp,Kb ht];unfold bO;rw [Int.toNat_natCast,List.drop_left]
   have hb:(decide (s.part+1<P.length)&&fN (partAt P (s.part+1)) u.text)=uB E.snd u.text (toS P n s).at_ (ja E.eo (toS P n s).at_):=by rw [he,cK,decide_eq_true hl,Bool.true_and];unfold uB;rw [hP.snd,hd,mN,<- PB (A:=partAt P (s.part+1)) (B:=(P.drop ((s.part+1).toNat+1)).flatten)];congr 1;exact decide_eq_decide.2 (by omega)
   refine ⟨hb,fun ht=>⟨?_,?_⟩⟩
   ·show (⟨n+1,bO P (s.part+1)+u.text.length,s.cls,ee u⟩:bA)=⟨n+1,(toS P n s).at_+u.text.length,s.cls,ee u⟩;rw [cK]
   have ht:=hb.trans ht;rw [decide_eq_true hl,Bool.true_and] at ht;have:=(Gd.1 ht).length_le;exact ⟨⟨by show 0<=s.part+1;omega,hl⟩,⟨by show (0:Int)<=u.text.length;omega,by show (u.text.length:Int)<=(partAt P (s.part+1)).length;omega⟩,fun _=>by show (0:Int)<u.text.length;omega⟩
  have cM:s.part+1=P.length:=(by omega);have cY:bO P (s.part+1)=(P.flatten.length:Int):=(by rw [cM,AQ]);have he:ja E.eo (toS P n s).at_=(toS P n s).at_:=by rw [hP.eo];exact PA P 0 _ (by rw [cK,cY];omega)
  have hb:uB E.snd u.text (toS P n s).at_ (ja E.eo (toS P n s).at_)=false:=by rw [he];unfold uB;rw [decide_eq_false (by omega),Bool.false_and]
  rw [decide_eq_false hl,Bool.false_and];exact ⟨hb.symm,fun ht=>by rw [hb] at ht;cases ht⟩
 rw [if_neg k1,if_neg k1];by_cases k2:u.kind=2
 ·rw [if_pos k2,if_pos k2];refine ⟨rfl,fun ht=>?_⟩;have ht:(decide (n=0)&&decide (u.text=E.dY.root))=true:=ht;rw [Bool.and_eq_true,decide_eq_true_eq,decide_eq_true_eq] at ht;have hD:=hn ht.1;have hr:=hP.root;rw [<- ht.2] at hr;refine ⟨?_,?_⟩
  ·show (⟨n+1,bO P s.part+u.text.length,s.cls,ee u⟩:bA)=⟨n+1,u.text.length,s.cls,ee u⟩;rw [hD,Gc,Int.zero_add]
  exact ⟨h1,⟨by show (0:Int)<=u.text.length;omega,by show (u.text.length:Int)<=(partAt P s.part).length;rw [hD];omega⟩,fun _=>by show (0:Int)<u.text.length;omega⟩
 rw [if_neg k2,if_neg k2];have hv:jx u=false:=by unfold jx;rw [decide_eq_false k1,decide_eq_false k2];rfl
 have ee:ee u=0:=by unfold Go.Abs.Wall.Spl.ee;rw [hv];rfl
 by_cases k3:u.kind=3
 ·rw [if_pos k3,if_pos k3];refine ⟨?_,fun ht=>⟨?_,?_⟩⟩
  ·show _=((!decide (E.B.cV=0)&&decide ((u.text.length:Int)<=s.last))&&oT (E.snd.take (bO P s.part+s.done).toNat) u.text);rw [hP.snd,PC hc]
  ·show (⟨n+1,bO P s.part+s.done,s.cls,0⟩:bA)=⟨n+1,bO P s.part+s.done,s.cls,Go.Abs.Wall.Spl.ee u⟩;rw [ee]
  exact ⟨h1,h2,hc.pos⟩
 rw [if_neg k3,if_neg k3];by_cases k4:u.kind=4
 ·rw [if_pos k4,if_pos k4]
  have cK:(toS P n s).at_=(partAt P 0).length↔(s.part=0/\s.done=(partAt P s.part).length):=by
   show bO P s.part+s.done=_↔_;constructor
   ·intro h;by_cases hp:s.part=0
    ·rw [hp,Gc] at h;refine ⟨hp,?_⟩;rw [hp];omega
    have h3:=vM (P:=P) (p:=0+1) (q:=s.part) (by omega) (by omega);have h4:=ti (P:=P) (p:=0) (by omega) (by omega);have:=hc.pos (by omega);rw [Gc] at h4;omega
   rintro ⟨hp,h⟩;rw [hp] at h ⊢;rw [Gc];omega
  refine ⟨?_,fun ht=>⟨?_,?_⟩⟩
  ·show (((((!decide (E.B.cls=0))&&nW P s)&&decide (s.part=0))&&!s.cls)&&(!decide (E.dY.cls=[])&&decide (u.text=E.dY.cls)))=((((!decide (E.B.cls=0))&&!s.cls)&&decide (u.text=E.dY.cls))&&decide ((toS P n s).at_=E.eo.headD 0));have Cz:decide ((toS P n s).at_=((partAt P 0).length:Int))=(decide (s.part=0)&&decide (s.done=((partAt P s.part).length:Int))):=by rw [Bool.eq_iff_iff,Bool.and_eq_true,decide_eq_true_eq,decide_eq_true_eq,decide_eq_true_eq];exact cK
   rw [hP.head,Cz]
   have he:(!decide (E.dY.cls=[])&&decide (u.text=E.dY.cls))=decide (u.text=E.dY.cls):=by
    by_cases e:u.text=E.dY.cls
    ·have:E.dY.cls≠[]:=by rw [<- e];exact List.length_pos_iff.1 hu
     rw [decide_eq_false this,decide_eq_true e];rfl
    rw [decide_eq_false e,Bool.and_false]
   rw [he];unfold nW;by_cases a1:E.B.cls=0<;>by_cases a2:s.part=0<;>by_cases a3:s.done=(partAt P s.part).length<;>by_cases a4:u.text=E.dY.cls<;>cases s.cls<;>simp [a1,a2,a3,a4]
  ·show (⟨n+1,bO P s.part+s.done,true,0⟩:bA)=⟨n+1,bO P s.part+s.done,true,Go.Abs.Wall.Spl.ee u⟩;rw [ee]
  exact ⟨h1,h2,hc.pos⟩
 rw [if_neg k4,if_neg k4];exact ⟨rfl,fun h=>by cases h⟩
theorem PG {E:Env} {P:List (List UInt8)} (hP:nX E P) {n:Int} (hn:n≠0) {s:RS} (hc:Can P s) :
  (ez E (toS P n s)).2=xn E P s/\(xn E P s=true->(ez E (toS P n s)).1=E.jP+if (!decide (E.dY.cls=[])&&!s.cls)=true then E.H.cC.oW else 0):=by
 have h1:=hc.part;have h2:=hc.done;have Ge:=ti h1.1 h1.2
 have hw:(bO P s.part+s.done<(E.snd.length:Int))↔¬ (s.part=(P.length:Int) - 1/\s.done=(partAt P s.part).length):=by
  rw [hP.snd,<- AQ];have hm:=vM (P:=P) (p:=s.part+1) (q:=P.length) (by omega) (by omega);constructor
  ·rintro h ⟨h3,h4⟩;rw [show s.part+1=(P.length:Int) by omega] at Ge;omega
  intro h;by_cases h3:s.part=(P.length:Int) - 1
  ·rw [show s.part+1=(P.length:Int) by omega] at Ge;have:s.done≠(partAt P s.part).length:=fun e=>h ⟨h3,e⟩;omega
  have h4:=ti (P:=P) (p:=s.part+1) (by omega) (by omega);have h5:=hP.PE (p:=s.part+1) (by omega) (by omega);have h6:=vM (P:=P) (p:=s.part+1+1) (q:=P.length) (by omega) (by omega);omega
 unfold ez xn nW;show (if (decide (n=0)||(decide (bO P s.part+s.done<(E.snd.length:Int))||vL E s))=true then ((0:Int),false) else if (s.cls||decide (E.dY.cls=[]))=true then (E.jP,true) else (E.jP+E.mf,!decide (E.B.cls=2))).2=_/\(_->(if (decide (n=0)||(decide (bO P s.part+s.done<(E.snd.length:Int))||vL E s))=true then ((0:Int),false) else if (s.cls||decide (E.dY.cls=[]))=true then (E.jP,true) else (E.jP+E.mf,!decide (E.B.cls=2))).1=_);rw [decide_eq_false hn,Bool.false_or,hP.mf];by_cases a:s.part=(P.length:Int) - 1/\s.done=(partAt P s.part).length
 ·rw [decide_eq_false (p:=bO P s.part+s.done<(E.snd.length:Int)) (by rw [hw];exact fun h=>h a),decide_eq_true a.1,decide_eq_true a.2];cases vL E s<;>by_cases b:E.dY.cls=[]<;>cases s.cls<;>by_cases c:E.B.cls=2<;>simp [b,c]
 rw [decide_eq_true (p:=bO P s.part+s.done<(E.snd.length:Int)) (hw.2 a)];have:(decide (s.part=(P.length:Int) - 1)&&decide (s.done=(partAt P s.part).length))=false:=by rw [<- Bool.not_eq_true,Bool.and_eq_true,decide_eq_true_eq,decide_eq_true_eq];exact a
 rw [this];exact ⟨rfl,fun h=>by cases h⟩
end Go.Abs.Wall.Spl
namespace Go.Abs.Wall.Spl
open Go Go.Abs Go.Proofs Go.Abs.Wall
open Go.Abs.Wall.Lst hiding al iW nG kQ ij dA nH lY nI nJ nK nL nM fj nO cm nP rH uc bW kS qB oO rI getAll
def ib (x:Lex) (f:br):List (List UInt8):=jb x f::f.ao.map fun c=>(cS x c).text
def jc (H:aD):List (List az):=(List.range H.list.aK.length).map fun (i:Nat)=>gM H (i:Int)
def lO (H:aD) (B:bE) (f:br):Env:=⟨H,B,bY H.lex f.entry,qL H.lex f,ia (ib H.lex f) 0,gE H.lex f,if (bY H.lex f.entry).cls=[] then 0 else H.cC.oW,jc H⟩
def iv (H:aD) (B:bE) (f:br):Int:=if kr H B≠0 then kr H B else fC H.lex f
theorem WR {H:aD} {B:bE} (h:lM H B=true):B.aK.length=H.list.aK.length/\(0<=B.cV/\B.cV<=2)/\(0<=B.cls/\B.cls<=2)/\∀ n∈B.aK,-1<=n/\n<=1000:=by unfold lM at h;simp only [Bool.and_eq_true,decide_eq_true_eq,dL,Bool.not_eq_true',List.any_eq_false] at h;obtain ⟨⟨⟨h1,h2⟩,h3⟩,h4⟩:=h;refine ⟨by omega,h2,h3,fun n hn=>?_⟩;have:=h4 n hn;unfold rR at this;rw [Bool.not_eq_true',Bool.not_eq_false] at this;exact dL.1 this
theorem Kc:∀ (P:List (List UInt8)) (a:Int),(ia P a).length=P.length
 | [],_=>rfl
 | t::r,a=>by rw [ia,List.length_cons,List.length_cons,Kc r]
theorem PH:∀ (P:List (List UInt8)) (a:Int),0<=a->∀ n∈ia P a,0<=n/\n<=a+P.flatten.length
 | [],_,_,n,hn=>by cases hn
 | t::r,a,ha,n,hn=>by
   rw [List.flatten_cons,List.length_append];rcases List.mem_cons.1 hn with rfl|hn
   ·push_cast;omega
   have:=PH r (a+t.length) (by omega) n hn;push_cast;omega
theorem PI:∀ (P:List (List UInt8)) (a:Int) (t:List UInt8),ia (P++[t]) a=ia P a++[a+(P.flatten.length+t.length)]
 | [],a,t=>by simp [ia]
 | x::r,a,t=>by rw [List.cons_append,ia,PI r,ia,List.flatten_cons,List.length_append];show _::(_++_)=_::(_++_);congr 3;push_cast;omega
theorem WS (x:Lex) (f:br):(ib x f).flatten=qL x f:=rfl
theorem WT {H:aD} {i:Nat} {us:List az} (h:(jc H)[i]?=some us):i<H.list.aK.length/\us=gM H i:=by
 unfold jc at h;rw [List.getElem?_map] at h;cases hr:(List.range H.list.aK.length)[i]? with
 | none=>rw [hr] at h;cases h
 | some j=>
   rw [hr] at h;have hi:=(List.getElem?_eq_some_iff.1 hr).1;rw [List.length_range] at hi;rw [List.getElem?_range hi] at hr;cases hr
   exact ⟨hi,by simpa using h.symm⟩
theorem Dr (H:aD):(jc H).length=H.list.aK.length:=by unfold jc;simp
theorem Kd {H:aD} {i:Nat} (h:i<H.list.aK.length):(jc H)[i]?=some (gM H i):=by unfold jc;rw [List.getElem?_map,List.getElem?_range h];rfl
theorem Gf {H:aD} (hH:kc H) {us:List az} (h:us∈jc H):us.length<=24/\∀ u∈us,kK u:=by obtain ⟨i,hi⟩:=List.mem_iff_getElem?.1 h;obtain ⟨h1,rfl⟩:=WT hi;have aV:=(sK hH.qy).each _ (List.mem_of_getElem? (yB (H:=H) (n:=i) (by omega) (by omega)));exact Fb aV
theorem Gg {H:aD} {B:bE} {f:br} (h0:fA H=0) (hr:lM H B=true) (hf:mg H.lex f):gk (lO H B f):=by
 have hH:=vN h0;obtain ⟨hl,_,_,hs⟩:=WR hr;have ax:=hf.Ds;have bq:=Gi hf.lex hf.eh;have dG:=hf.bB;have hw:=hf.jP;have fl:(qL H.lex f).length<=24:=by unfold qL;rw [List.length_append];omega
 refine ⟨by rw [show (lO H B f).ay=jc H from rfl,Dr];exact hl,by rw [show (lO H B f).ay=jc H from rfl,Dr];exact (sK hH.qy).many,fun us bd=>by have:=(Gf hH bd).1;omega,fun us bd u hu=>((Gf hH bd).2 u hu).2.2.2,hs,by show (qL H.lex f).length<=1000;omega,?_,⟨?_,?_,?_⟩,⟨hw.1,by show gE H.lex f<=100000;omega⟩,?_,hH.cC⟩
 ·show (bY H.lex f.entry).root.length<=(qL H.lex f).length;unfold qL jb;rw [List.length_append,List.length_append];omega
 ·show ia (ib H.lex f) 0≠[];unfold ib;rw [ia];simp
 ·show (ia (ib H.lex f) 0).length<=1000;rw [Kc];unfold ib;rw [List.length_cons,List.length_map];omega
 ·intro n hn;have:=PH (ib H.lex f) 0 (Int.le_refl _) n hn;rw [WS] at this;exact ⟨this.1,by show n<=((qL H.lex f).length:Int);omega⟩
 show 0<=(if (bY H.lex f.entry).cls=[] then (0:Int) else H.cC.oW)/\(if (bY H.lex f.entry).cls=[] then (0:Int) else H.cC.oW)<=1000;split
 ·omega
 exact hH.cC _ (by simp [iq])
theorem WU {H:aD} {B:bE} {f:br} (h0:fA H=0) (hf:mg H.lex f):nX (lO H B f) (ib H.lex f):=by
 have hH:=vN h0;refine ⟨rfl,rfl,by unfold ib;simp,fun i t ht=>?_,?_,fun us bd u hu=>((Gf hH bd).2 u hu).2.2.1,rfl⟩
 ·unfold ib at ht;rw [List.getElem?_cons_succ,List.getElem?_map] at ht;cases hc:f.ao[i]? with
  | none=>rw [hc] at ht;cases ht
  | some c=>
    rw [hc] at ht;cases ht
    have hb:=hf.eh c (List.mem_of_getElem? hc);have:=lP (hf.lex.cS hb.1 hb.2).text;show 0<(cS H.lex c).text.length;omega
 show (bY H.lex f.entry).root.length<=(partAt (ib H.lex f) 0).length;show (bY H.lex f.entry).root.length<=(jb H.lex f).length;unfold jb;rw [List.length_append];omega
def qM (x:Lex) (f:br) (i:Nat):List UInt8:=jb x f++ku x (f.ao.take i)
def qN (x:Lex) (f:br) (i:Nat):List Int:=ia (jb x f::(f.ao.take i).map fun c=>(cS x c).text) 0
theorem WV (x:Lex) (f:br):qM x f 0=jb x f:=by unfold qM ku;simp
theorem WW (x:Lex) (f:br):qN x f 0=[((jb x f).length:Int)]:=by unfold qN;simp [ia]
theorem WX {x:Lex} {f:br} (hf:mg x f) (i:Nat):(qM x f i).length<=24:=by have h1:=hf.Ds;have h2:=hf.bB;have h3:=Gi hf.lex (l:=f.ao.take i) fun c hc=>hf.eh c (List.mem_of_mem_take hc);rw [List.length_take] at h3;unfold qM;rw [List.length_append];omega
theorem WY {x:Lex} {f:br} (hf:mg x f) (i:Nat):(qN x f i).length<=4:=by have h2:=hf.bB;unfold qN;rw [Kc,List.length_cons,List.length_map,List.length_take];omega
theorem Ke {x:Lex} {f:br} {i:Nat} {c:Int} (hc:f.ao[i]?=some c):qM x f (i+1)=qM x f i++(cS x c).text:=by unfold qM;rw [cN hc,PJ,List.append_assoc]
theorem WZ {x:Lex} {f:br} {i:Nat} {c:Int} (hc:f.ao[i]?=some c):qN x f (i+1)=qN x f i++[((qM x f (i+1)).length:Int)]:=by have h1:=Ke (x:=x) hc;unfold qN;rw [cN hc,List.map_append,<- List.cons_append,List.map_singleton,PI,h1];unfold qM ku;rw [List.flatten_cons,List.length_append,List.length_append,List.length_append];congr 2;push_cast;omega
theorem Xa (x:Lex) (f:br):qM x f f.ao.length=qL x f:=by unfold qM;rw [List.take_length];rfl
theorem Xb (x:Lex) (f:br):qN x f f.ao.length=ia (ib x f) 0:=by unfold qN;rw [List.take_length];rfl
def c58:av:=⟨[0,1,2,3,4,5,21],[],[],[],[],[]⟩
def c29:av:=⟨[0,1,2,3,4,5,6,7,8,9,10,12,13,14,15,20,27,62,63,64,65,112,113,114,123],[41,58],[],[],[(13,[0,1,2,3,4,5,6,7,8,9,10,11,12,13,14],[]),(14,[0,1,2,3,4,5,6,7,8,9,10,11,12,13,14],[])],[]⟩
theorem Xc (H:aD) (f:br) (hx:rT H.lex) (hf:mg H.lex f) (h0:fC H.lex f=0):ab Tryz.prog 58 [.agg (aZ H),.agg (dt f)] [] (.aB [.int .i64 (gE H.lex f),.int .i64 (if (bY H.lex f.entry).cls=[] then 0 else H.cC.oW)]):=by
 have dG:=hf.bB;have hW:=PK H.lex f hx (by unfold aq;omega);rw [if_pos h0] at hW;refine aA (F:=Tryz.f58) c58 rfl rfl rfl mixed rfl fun X=>?_;(conv=>whnf);repeat ((first|refine ab.k0 (hW) ?_|(refine cp f.entry.toNat (by have:=hf.entry;omega) (nY hf.entry.1 hf.entry.2) ?_));conv=>whnf)
 refine ⟨fun hc=>?_,fun hc=>?_⟩<;>simp at hc
 ·rw [if_neg hc];(conv=>whnf);skip;exact ⟨rfl,rfl⟩
 rw [if_pos hc];(conv=>whnf);skip;exact ⟨rfl,rfl⟩
theorem zp:∀ {xs ys zq PL:List AV},cu xs ys->cu zq PL->cu (xs++zq) (ys++PL)
 | _,_,_,_,.nil,h=>h
 | _,_,_,_,.cons h1 h2,h=>.cons h1 (zp h2 h)
def vO:List (bA × Int)->Ob:=fun es=>.map (pI vI (AV.int .i64) es)
def Dt (H:aD) (B:bE) (f:br) (sv:List UInt8) (bv uv:AV) (wg ms:Int) (nb cb:Nat):List AV:=aZ H++(dO B++(fi (bY H.lex f.entry)++[.str sv,bv,.int .i64 wg,.int .i64 ms,uv,.omap nb,.omap cb]))
theorem IX (H:aD) (B:bE) (f:br) (hh:dx H) (hB:lN B) (cY:f.ao.length<=aq) :
  aw Tryz.prog 29 [.agg (aZ H),.agg (dO B),.agg (dt f)] []
   (fun v h'=>(iv H B f≠0/\v=.aB [.jC,.int .i64 (iv H B f)]/\h'=[])\/(iv H B f=0/\∃ nb cb,v=.aB [.ai (kW (lO H B f) (.omap nb) (.omap cb)),.int .i64 0]/\h'=[(nb,eB []),(cb,vO [])])):=by
 have FU:=Kf H.lex f hh.lex cY;have ax:=Xd H.lex f hh.lex cY;have gD:=hh.list.aK;unfold aq at gD
 have key:aw Tryz.prog 29 [.agg (aZ H),.agg (dO B),.agg (dt f)] []
   (fun v h'=>(iv H B f≠0/\v=.aB [.jC,.int .i64 (iv H B f)])\/(iv H B f=0/\∃ sb nb cb bv bh uv uh,v=.aB [.ba sb 0,.int .i64 0]/\Out 1 (fun n=>[AV.int .i64 n]) (ia (ib H.lex f) 0) bv bh/\Out 1 eD (jc H) uv uh /\
     h'.Perm ((sb,.vec (Dt H B f (qL H.lex f) bv uv (gE H.lex f) (lO H B f).mf nb cb))::(nb,eB [])::(cb,vO [])::(bh++uh)))):=by
  refine aA (F:=Tryz.f29) c29 rfl rfl rfl mixed rfl fun X=>?_;(conv=>whnf);repeat (refine ab.k0 (Gb H B hh hB) ?_;conv=>whnf)
  refine ⟨fun h0=>?_,fun h0=>?_⟩<;>simp at h0
  ·(conv=>whnf);left;unfold iv;rw [if_pos h0];exact ⟨h0,rfl⟩
  (conv=>whnf);repeat (refine ab.k0 (FU) ?_;conv=>whnf)
  have FM:iv H B f=fC H.lex f:=by unfold iv;rw [if_neg (by omega)]
  refine ⟨fun h1=>?_,fun h1=>?_⟩<;>simp at h1
  ·(conv=>whnf);left;rw [FM];exact ⟨h1,rfl⟩
  obtain ⟨dJ,oH⟩:=Dq h0;have hH:=vN dJ;have hf:=qF h1;have dG:=hf.bB;have Gj:=Xc H f hh.lex hf h1;rw [if_pos h1,h1] at ax;have fl:=hf.Ds;(conv=>whnf);refine Xe rfl mixed [0,1,2,3,4,5,6,7,8] [9,10] [11,12,13] [] (by show aJ (aH Tryz.f29 _) _=true;decide +kernel) ?_;(conv=>whnf);repeat ((refine cp f.entry.toNat (by have:=hf.entry;omega) (nY hf.entry.1 hf.entry.2) ?_);conv=>whnf)
  apply Xf
  ·intro key;refine ⟨by first|decide +kernel|rfl,?_,?_,trivial⟩
   ·(conv=>whnf);refine ⟨by first|decide +kernel|rfl,?_⟩;(conv=>whnf);intro n1;(conv=>whnf);refine ⟨by first|decide +kernel|rfl,?_,trivial⟩;(conv=>whnf);refine ⟨by first|decide +kernel|rfl,?_⟩;(conv=>whnf);intro n2;(conv=>whnf);repeat (intro (nb:Nat);conv=>whnf)
    exact ⟨_,_,ah.refl _ _,key n1 n2 nb⟩
   (conv=>whnf);refine ⟨by first|decide +kernel|rfl,?_⟩;(conv=>whnf);intro n2;(conv=>whnf);refine ⟨by first|decide +kernel|rfl,?_,trivial⟩;(conv=>whnf);refine ⟨by first|decide +kernel|rfl,?_⟩;(conv=>whnf);intro n1;(conv=>whnf);repeat (intro (nb:Nat);conv=>whnf)
   exact ⟨_,_,ah.perm (.cons _ (.swap _ _ _)),key n1 n2 nb⟩
  intro n1 n2 b;(conv=>whnf);repeat ((first|refine ab.k0 (ax) ?_|(refine ⟨_,_,.here _,aI,?_⟩)|refine ⟨_,_,.head _,rfl,?_⟩|refine ⟨_,_,.there (.here _),aI,?_⟩|intro (nb:Nat));conv=>whnf)
  refine bD rfl mixed [3,5,10,62,63,64] [] (fun m r h=>∃ (i:Nat) (q sb n1 n2:Nat),r=[(3,[],.ai (aZ H)),(5,[],.ai (dt f)),(10,[],.ba sb 0),(62,[],.sl 1 none (ints f.ao)),(63,[],.int .i64 (ints f.ao).length),(64,[],.int .i64 i)]/\h=(q,.tok)::(sb,.vec (Dt H B f (qM H.lex f i) (.sl 1 (some q) (ints (qN H.lex f i))) .aS 0 0 n1 n2))::(n2,.map [])::[(n1,.map [])]/\m=f.ao.length - i/\i<=f.ao.length) ?_ ?_
  ·(conv=>whnf);exact ⟨_,_,ah.refl _ _,_,0,nb,b,n1,n2,rfl,by rw [WV,WW];rfl,rfl,by omega⟩
  rintro m r h' ⟨i,q,sb,n1,n2,rfl,rfl,rfl,hi⟩;(conv=>whnf);refine ⟨fun hz=>?_,fun hz=>?_⟩<;>simp [cO] at hz
  ·obtain ⟨c,hc⟩:=aF hz;have eW:=hf.eh c (List.mem_of_getElem? hc);have AR:=lP (hf.lex.cS eW.1 eW.2).text;have Dh:=WX hf i;have Gk:(ints (qN H.lex f i)).length<=4:=by rw [cO];exact WY hf i
   (conv=>whnf);repeat ((first|refine ⟨ag ⟨by omega,by omega⟩,?_⟩|refine ix (by assumption) ?_|(refine cp c.toNat (by omega) (kz eW.1 eW.2) ?_)|(refine ⟨ag (by rw [List.length_append];unfold aq;omega),?_⟩)|(refine ⟨_,_,.tail _ (.head _),rfl,?_⟩)|(refine ⟨_,_,.there (.here _),aI,?_⟩)|(refine ⟨(by rw [List.length_append,List.length_singleton];unfold aN;omega),fun q'=>⟨_,.here _,?_⟩⟩)|refine And.intro (by show aJ (aH Tryz.f29 _) _=true;decide +kernel) ?_);conv=>whnf)
   refine ⟨_,_,ah.refl _ _,_,(by omega),i+1,q',sb,n1,n2,rfl,?_,rfl,by omega⟩;have h1:ints (qN H.lex f (i+1))=ints (qN H.lex f i)++[[.int .i64 ((qM H.lex f i++(cS H.lex c).text).length:Nat)]]:=by rw [WZ hc,Ke hc];unfold ints;rw [List.map_append];rfl
   rw [h1,Ke hc];rfl
  have bw:i=f.ao.length:=(by omega);subst bw;rw [Xa,Xb]
  have tm:∀ (j:Nat),j<H.list.aK.length->ab Tryz.prog 59 [.agg (aZ H),.int .i64 j] [] (.aB [.sl 2 none ((gM H j).map aU),.int .i64 0]):=by
   intro j hj;have hU:=Xg H j hh;have he:kA H j=0:=by unfold kA;rw [if_neg (by omega),if_neg];rw [Bool.not_eq_false,dL];omega
   unfold tn at hU;rw [if_pos he,he] at hU;exact hU
  (conv=>whnf);repeat ((first|refine ab.k0 (Gj) ?_|refine ⟨_,_,.there (.here _),aI,?_⟩);conv=>whnf)
  refine bD rfl mixed [3,10,112,113] [] (fun m r h=>∃ (i:Nat) (q sb n1 n2:Nat) (uv:AV) (uh:af),r=[(3,[],.ai (aZ H)),(10,[],.ba sb 0),(112,[],.int .i64 (H.list.aK.map hZ).length),(113,[],.int .i64 i)]/\h=(q,.tok)::(sb,.vec (Dt H B f (qL H.lex f) (.sl 1 (some q) (ints (ia (ib H.lex f) 0))) uv (gE H.lex f) (lO H B f).mf n1 n2))::(n2,.map [])::(n1,.map [])::uh/\m=H.list.aK.length - i/\i<=H.list.aK.length/\Out 1 eD ((jc H).take i) uv uh) ?_ ?_
  ·(conv=>whnf);exact ⟨_,_,ah.refl _ _,_,0,q,sb,n1,n2,.aS,[],rfl,rfl,rfl,by omega,.inl ⟨by simp,rfl,rfl⟩⟩
  rintro m r h' ⟨i,q,sb,n1,n2,uv,uh,rfl,rfl,rfl,hi,ho⟩;(conv=>whnf);refine ⟨fun hz=>?_,fun hz=>?_⟩<;>simp at hz
  ·have hu:=tm i hz;have mK:=cN (Kd hz);have vz:=(sK hH.qy).many;have fu:(((jc H).take i).map eD).length<=200:=by rw [List.length_map,List.length_take];omega
   rcases ho with ⟨hn,rfl,rfl⟩|⟨qu,rfl,rfl⟩
   ·(conv=>whnf);repeat (refine ab.k0 (hu) ?_;conv=>whnf)
    refine cF rfl ?_;(conv=>whnf);repeat ((first|refine ⟨ag ⟨by omega,by omega⟩,?_⟩|(refine ⟨Nat.le_of_ble_eq_true rfl,fun q'=>?_⟩)|(refine ⟨_,_,.there (.there (.here _)),aI,?_⟩)|refine ⟨_,_,.tail _ (.head _),rfl,?_⟩);conv=>whnf)
    exact ⟨_,_,ah.perm (List.perm_middle (l₁:=[_,_,_,_])).symm,_,(by omega),i+1,q,sb,n1,n2,_,[(q',.tok)],rfl,rfl,rfl,by omega,.inr ⟨q',by rw [mK,hn];rfl,rfl⟩⟩
   (conv=>whnf);repeat (refine ab.k0 (hu) ?_;conv=>whnf)
   refine cF rfl ?_;(conv=>whnf);repeat ((first|refine ⟨ag ⟨by omega,by omega⟩,?_⟩|(refine ⟨(by rw [List.length_append,List.length_singleton];unfold aN;omega),fun q'=>⟨_,.there (.there (.there (.there (.here _)))),?_⟩⟩)|(refine ⟨_,_,.tail _ (.head _),rfl,?_⟩)|(refine ⟨_,_,.there (.here _),aI,?_⟩));conv=>whnf)
   exact ⟨_,_,ah.refl _ _,_,(by omega),i+1,q,sb,n1,n2,_,[(q',.tok)],rfl,rfl,rfl,by omega,.inr ⟨q',by rw [mK,List.map_append];rfl,rfl⟩⟩
  have bw:i=H.list.aK.length:=(by omega);subst bw;rw [List.take_of_length_le (by rw [Dr];exact Nat.le_refl _)] at ho;(conv=>whnf);skip;refine .inr ⟨by rw [FM];exact h1,sb,n1,n2,.sl 1 (some q) (ints (ia (ib H.lex f) 0)),[(q,.tok)],uv,uh,rfl,.inr ⟨q,rfl,rfl⟩,ho,?_⟩;refine (List.Perm.trans (List.perm_append_comm (l₁:=[(q,Ob.tok)]) (l₂:=(sb,_)::(n2,.map [])::(n1,.map [])::uh)) ?_);refine List.Perm.cons _ ((List.Perm.swap _ _ _).trans (List.Perm.cons _ (List.Perm.cons _ ?_)));exact List.perm_append_comm
 have Kg:aw Tryz.prog 29 [.agg (aZ H),.agg (dO B),.agg (dt f)] []
   (fun v h'=>(iv H B f≠0/\v=.aB [.jC,.int .i64 (iv H B f)]/\h'=[])\/(iv H B f=0/\∃ sb nb cb bv bh uv uh,v=.aB [.ba sb 0,.int .i64 0]/\Out 1 (fun n=>[AV.int .i64 n]) (ia (ib H.lex f) 0) bv bh/\Out 1 eD (jc H) uv uh /\
     h'=(sb,.vec (Dt H B f (qL H.lex f) bv uv (gE H.lex f) (lO H B f).mf nb cb))::(nb,eB [])::(cb,vO [])::(bh++uh))):=by
  refine aw.post key ?_;rintro v h1 (⟨h,rfl⟩|⟨h,sb,nb,cb,bv,bh,uv,uh,rfl,oD,cg,hp⟩)
  ·exact ⟨_,_,.inl ⟨h,rfl,rfl⟩,aa.refl _,fun k o hm=>(by cases hm),fun _=>(by simp [keys])⟩
  exact ⟨_,_,.inr ⟨h,sb,nb,cb,bv,bh,uv,uh,rfl,oD,cg,rfl⟩,aa.refl _,fun k o hm=>hp.mem_iff.2 hm,fun hn=>by unfold keys at hn ⊢;exact ((hp.map _).nodup_iff).1 hn⟩
 refine aw.post (R:=fun v h'=>(iv H B f≠0/\v=.aB [.jC,.int .i64 (iv H B f)]/\h'=[])\/(iv H B f=0/\∃ nb cb bv bh uv uh,v=.aB [.ai (Dt H B f (qL H.lex f) bv uv (gE H.lex f) (lO H B f).mf nb cb),.int .i64 0]/\Out 1 (fun n=>[AV.int .i64 n]) (ia (ib H.lex f) 0) bv bh/\Out 1 eD (jc H) uv uh /\
    h'=(nb,eB [])::(cb,vO [])::(bh++uh))) (aw.Gl Kg ?_) ?_
 ·rintro v h1 (⟨h,rfl,rfl⟩|⟨h,sb,nb,cb,bv,bh,uv,uh,rfl,oD,cg,rfl⟩)
  ·exact .inl (.inl ⟨h,rfl,rfl⟩)
  exact .inr ⟨sb,_,_,_,_,.here _,jd.refl _,.aB (.cons (.ptr rfl) (.cons (.refl _) .nil)),.inr ⟨h,nb,cb,bv,bh,uv,uh,rfl,oD,cg,rfl⟩⟩
 rintro v h1 (⟨h,rfl,rfl⟩|⟨h,nb,cb,bv,bh,uv,uh,rfl,oD,cg,rfl⟩)
 ·exact ⟨_,_,.inl ⟨h,rfl,rfl⟩,aa.refl _,fun k o hm=>hm,fun hn=>hn⟩
 refine ⟨_,_,.inr ⟨h,nb,cb,rfl,rfl⟩,aa.aB (.cons (aa.ai ?_) (.cons (aa.refl _) .nil)),fun k o hm=>?_,fun hn=>?_⟩
 ·exact zp (cu.refl _) (zp (cu.refl _) (zp (cu.refl _) (.cons (aa.refl _) (.cons (oD.le (by decide)) (.cons (aa.refl _) (.cons (aa.refl _) (.cons (cg.le (by decide)) (.cons (aa.refl _) (.cons (aa.refl _) .nil)))))))))
 ·rcases List.mem_cons.1 hm with h|h
  ·rw [h];exact List.mem_cons_self
  rcases List.mem_cons.1 h with h|h
  ·rw [h];exact List.mem_cons_of_mem _ List.mem_cons_self
  cases h
 unfold keys at hn ⊢;have h2:=(List.nodup_append.1 (show ([nb,cb]++(bh++uh).map (fun p:Nat × Ob=>p.1)).Nodup from hn)).1;exact h2
end Go.Abs.Wall.Spl
