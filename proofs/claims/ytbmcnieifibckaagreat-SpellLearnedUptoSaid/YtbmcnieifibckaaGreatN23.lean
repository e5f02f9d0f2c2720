/- What is proved: small laws for the walks of this seat, and contracts of its functions. No condition but those each theorem names. -/
import Derived.Test.YtbmcnieifibckaaGreatN22
import Derived.Test.YtbmcnieifibckaaGreatN21
import Derived.Test.YtbmcnieifibckaaGreatN9
import Derived.Test.YtbmcnieifibckaaGreatN8
set_option maxRecDepth 100000
set_option maxHeartbeats 2000000
set_option linter.unusedVariables false
set_option linter.unusedSimpArgs false
namespace Go.Abs.Wall.Spl
open Go Go.Abs Go.Proofs Go.Abs.Wall
open Go.Abs.Wall.Lst hiding aq ic lH jx gE dn lI kH lJ lK lL lM lN eA lO ch lP pC rI bY jW oN mV pD getAll
theorem getAll (E:Env) (hE:jE E):∀ (d:Nat) (x:bJ),jF E x->(12 - x.n).toNat=d->jW E x/\GB E x:=by
 intro d;induction d with
 | zero=>
   intro x hx hd;have hn:=hx.n;have IH:∀ y,jF E y->y.n=x.n+1->jW E y:=fun y hy gI=>by have:=hy.n;omega
   have hN:=Ql E hE x hx IH;exact ⟨pD E hE x hx hN IH,hN⟩
 | succ d ih=>
   intro x hx hd;have hn:=hx.n;have IH:∀ y,jF E y->y.n=x.n+1->jW E y:=fun y hy gI=>(ih y hy (by omega)).1;have hN:=Ql E hE x hx IH;exact ⟨pD E hE x hx hN IH,hN⟩
theorem eb.at {E:Env} {n:Int}:∀ {c:Nat} {d:Int} {es:gb} {hp:af},eb E c d es hp->d<=n->n<=12->∃ c' hA hB,hp=hA++hB/\eb E c' n es hB/\∀ ext xh,(∀ p∈ext,n<=p.1.n)->eb E c' n (es++ext) xh->eb E c d (es++ext) (hA++xh)
 | _,d,es,_,.done h,h1,h2=>by omega
 | _,d,es,_,.step (hA:=hA) (hB:=hB) nA nB,h1,h2=>by
   by_cases he:d=n
   ·subst he;exact ⟨_,[],_,rfl,.step nA nB,fun ext xh _ h=>h⟩
   obtain ⟨c',XR,XS,e,k,f⟩:=eb.at (n:=n) nB (by omega) h2;refine ⟨c',hA++XR,XS,by rw [e,List.append_assoc],k,fun ext xh hx h=>?_⟩;rw [List.append_assoc];exact .step (nA.more fun p hp=>by have:=hx p hp;omega) (f ext xh hx h)
theorem Qp {m:Nat × Ob} {A B C D:af}:(m::D++(A++(B++C))).Perm (A++m::(B++(C++D))):=by refine List.Perm.trans ?_ List.perm_middle.symm;refine List.Perm.cons _ ?_;refine List.Perm.trans List.perm_append_comm ?_;simp
theorem Kz {E:Env} (hE:jE E) {x:bJ} (hx:jF E x) {nb:Nat} {cv:AV} {es:gb} {c:Nat} {hp:af} {aM:Nat} (hn:eb E c 0 es hp) (hr:aM<=64) (A B:af) :
  aB Tryz.prog 105 [.au (lj E (.omap nb) cv),.agg (kL x),.int .i64 aM] (A++(nb,ew es)::(B++hp))
   (fun v H'=>v=bY E x aM/\∃ ext aY,eb E c 0 (es++ext) aY/\(dM x (es++ext)).isSome=true/\H'=A++(nb,ew (es++ext))::(B++aY)):=by
 obtain ⟨c',hA,hB,rfl,k,f⟩:=hn.at hx.n.1 hx.n.2;refine aB.re ((getAll E hE _ x hx rfl).1 nb cv es c' hB aM k hr) (h2:=A++(B++hA)) Qp ?_;rintro v h1 ⟨hv,ext,aY,he,jz,gW,rfl⟩;exact ⟨_,Qp,hv,ext,hA++aY,f ext aY he jz,gW,rfl⟩
theorem Qq {E:Env} {x:bJ} {nb k:Nat} {cv:AV} {es:gb} (dI:dM x es=some k) {h:af} (hm:(nb,ew es)∈h) :
  ae Tryz.prog 106 [.au (lj E (.omap nb) cv),.agg (kL x)] h (.bj k 0):=by
 refine aG (F:=Tryz.f106) c106 rfl rfl rfl mixed rfl fun X=>?_;(conv=>whnf);repeat ((first|(refine Kv hm ?_)|refine And.intro (by show aP (aN Tryz.f106 _) _=true;decide +kernel) ?_);conv=>whnf)
 rw [dI];refine cT rfl ?_;(conv=>whnf);skip;exact ⟨rfl,rfl⟩
theorem eb.node {E:Env} {x:bJ} {k:Nat} (hx:jF E x) {c:Nat} {es:gb} {hp:af} (hn:eb E c 0 es hp) (dI:dM x es=some k):∃ fv ov due,(k,Ob.vec (ch (iW E x) fv ov due))∈hp:=by
 obtain ⟨c',hA,hB,rfl,nn,f⟩:=hn.at hx.n.1 hx.n.2;cases nn with
 | done h=>have:=hx.n;omega
 | step nA nB=>
   obtain ⟨hX,h1,hY,rfl,cp,_⟩:=nA.pick rfl dI;obtain ⟨t,due,Q,fv,fh,ov,oh,_,_,_,rfl⟩:=cp;exact ⟨fv,ov,due,by simp⟩
structure Spl where
 aA:List Int
 ai:List ay
 cost:Int
deriving DecidableEq
def vN (p:Spl):List AV:=[.sl 1 none (ints p.aA),.sl 2 none (p.ai.map aV),.int .i64 p.cost]
def eK:bJ:=⟨0,0,false,0⟩
def nW (E:Env) (w:Wy):Spl:=⟨(nU E eK w).map (·.sign),(nU E eK w).map (·.use),w.cost / 16⟩
def vO (E:Env) (aM:Nat):AV:=match (eY E eK)[aM]? with
 | none=>.aH [.agg [.aT,.aT,.int .i64 0],.bool false]
 | some w=>.aH [.agg (vN (nW E w)),.bool true]
theorem xk {E:Env}:jF E eK:=⟨⟨by decide,by decide⟩,⟨by decide,by show (0:Int)<=_;omega⟩,⟨by decide,by decide⟩⟩
def c55:az:=⟨[0,1,4,5,6,7,8,18,26],[],[8],[],[(7,[0,1,2,3,4,5,6,7,8,9,10,11],[8])],[]⟩
theorem XT (E:Env) (hE:jE E) (tb:Nat) (cv:AV) (es:gb) (c:Nat) (hp:af) (aM:Nat) (hr:aM<=64) (hN:eb E c 0 es hp) :
  aB Tryz.prog 55 [.au (lj E (.omap tb) cv),.int .i64 aM] ((tb,ew es)::hp)
   (fun v h'=>v=vO E aM/\∃ ext aY,eb E c 0 (es++ext) aY/\h'=(tb,ew (es++ext))::aY):=by
 refine aB.post (R:=fun v h'=>∃ v',v'=vO E aM/\ag v v'/\∃ ext aY Z,eb E c 0 (es++ext) aY/\h'.Perm ((tb,ew (es++ext))::aY++Z)) ?_ ?_
 ·refine aG (F:=Tryz.f55) c55 rfl rfl rfl mixed rfl fun X=>?_;(conv=>whnf);repeat ((first|(intro (b7:Nat))|(refine aB.mono ?_ (Kz hE xk hN hr [_,_] []))|refine ⟨_,_,.head _,rfl,?_⟩|refine ⟨_,_,.here _,aR,?_⟩);conv=>whnf)
  rintro v h' ⟨rfl,ext,aY,AZ,gW,rfl⟩;clear hN;obtain ⟨ni,oS⟩:∃ e,e=es++ext:=⟨_,rfl⟩;rw [<- oS] at AZ gW;rw [<- oS];cases hw:(eY E eK)[aM]? with
  | none=>
    have dH:bY E eK aM=.aH [.agg pO,.bool false]:=by unfold bY;rw [hw]
    rw [dH];(conv=>whnf);repeat ((first|(intro (b7:Nat))|refine ⟨_,_,.here _,aR,?_⟩);conv=>whnf)
    refine cT rfl ?_;(conv=>whnf);repeat ((refine ⟨_,_,.there (.there (.here _)),aR,?_⟩);conv=>whnf)
    refine ⟨_,_,.tail _ (.tail _ (.head _)),rfl,?_⟩;refine ⟨_,rfl,?_,ext,aY,[_,_,_],by rw [<- oS];exact AZ,by rw [<- oS];exact List.perm_append_comm (l₁:=[_,_,_])⟩;unfold vO;rw [hw];exact ag.refl _
  | some w0=>
    have dH:bY E eK aM=.aH [.agg (aq w0),.bool true]:=by unfold bY;rw [hw]
    rw [dH];(conv=>whnf);repeat ((first|(intro (b7:Nat))|refine ⟨_,_,.here _,aR,?_⟩);conv=>whnf)
    refine cF rfl ?_;(conv=>whnf);repeat ((first|(refine ⟨_,_,.there (.there (.here _)),aR,?_⟩)|refine ⟨_,_,.head _,rfl,?_⟩);conv=>whnf)
    refine bW rfl mixed [0,4,6,7] [] (fun m r h=>∃ (x:bJ) (ρ:Nat) (w:Wy) (L:List Mv) (sv uv:AV) (sh uh hp:af) (ext:gb) (wb xb ob:Nat),r=[(0,[],.au (lj E (.omap tb) cv)),(4,[],.bj ob 0),(6,[],.bj xb 0),(7,[],.bj wb 0)]/\h=(wb,.vec (aq w))::(xb,.vec (kL x))::(ob,.vec [sv,uv,.int .i64 (w0.cost / 16)])::(tb,ew (ni++ext))::(sh++(uh++hp))/\m=(13 - x.n).toNat/\jF E x/\(eY E x)[ρ]?=some w/\nU E eK w0=L++nU E x w/\(L.length:Int)=x.n/\ρ<=64/\eb E c 0 (ni++ext) hp/\(dM x (ni++ext)).isSome=true/\((L=[]/\sv=.aT/\uv=.aT/\sh=[]/\uh=[])\/∃ q1 q2,sv=.sl 1 (some q1) (ints (L.map (·.sign)))/\uv=.sl 2 (some q2) (L.map fun m=>aV m.use)/\sh=[(q1,.tok)]/\uh=[(q2,.tok)])) ?_ ?_
    ·(conv=>whnf);exact ⟨_,_,ao.refl _ _,_,eK,aM,w0,[],.aT,.aT,[],[],aY,[],_,_,_,rfl,by rw [List.append_nil];rfl,rfl,xk,hw,rfl,rfl,hr,by rw [List.append_nil];exact AZ,by rw [List.append_nil];exact gW,.inl ⟨rfl,rfl,rfl,rfl,rfl⟩⟩
    clear AZ;rintro m r h' ⟨x,ρ,w,L,sv,uv,sh,uh,hp,ik,wb,xb,ob,rfl,rfl,rfl,hx,oO,hL,ml,hρ,hN,gW,ho⟩;have hn:=hx.n;(conv=>whnf);repeat (refine ⟨_,_,.head _,rfl,?_⟩;conv=>whnf)
    refine ⟨fun hz=>?_,fun hz=>?_⟩<;>simp at hz
    ·obtain ⟨m,w',hm,cG,kZ,hD,hc,uZ⟩:=vr hE hx oO (by omega);have cp:=cG.next;have lS:(ints (L.map (·.sign))).length=L.length:=(by simp [ints]);have mL:(L.map fun m=>aV m.use).length=L.length:=(by simp);have CK:bY E m.to w.aM=.aH [.agg (aq w'),.bool true]:=by unfold bY;rw [kZ]
     obtain ⟨k,dI⟩:=Option.isSome_iff_exists.1 gW;obtain ⟨fv,ov,due,hk⟩:=hN.node hx dI;rcases ho with ⟨Qr,rfl,rfl,rfl,rfl⟩|⟨q1,q2,rfl,rfl,rfl,rfl⟩
     ·have Dn:=Qq (E:=E) (cv:=cv) dI (h:=(wb,Ob.vec (aq w))::(xb,.vec (kL x))::(ob,.vec [.aT,.aT,.int .i64 (w0.cost / 16)])::(tb,ew (ni++ik))::([]++([]++hp))) (.tail _ (.tail _ (.tail _ (.head _))));(conv=>whnf);repeat ((first|(refine ⟨.bj k 0,ah Dn,?_⟩)|(refine ⟨_,_,.tail _ (.tail _ (.tail _ (.tail _ hk))),rfl,?_⟩)|(refine dg (enc:=vJ) (w.aO - 1) (by omega) hm ?_)|(refine ⟨_,_,.tail _ (.tail _ (.head _)),rfl,?_⟩)|(refine ⟨_,_,.tail _ (.tail _ (.tail _ (.head _))),rfl,?_⟩)|(refine ⟨Nat.le_of_ble_eq_true rfl,fun q=>?_⟩)|(refine ⟨_,_,.there (.there (.there (.here _))),aR,?_⟩)|(refine ⟨_,_,.there (.there (.there (.there (.here _)))),aR,?_⟩)|refine ⟨_,_,bo.here _,?_⟩|refine ⟨_,_,.head _,rfl,?_⟩|refine ⟨_,_,.tail _ (.head _),rfl,?_⟩|refine ⟨_,_,.here _,aR,?_⟩|refine And.intro (by show aP (aN Tryz.f55 _) _=true;decide +kernel) ?_|intro (nb:Nat));conv=>whnf)
      rename_i q1;refine aB.mono ?_ (Kz hE cG.to hN (aM:=w.aM) (by omega) [(q,.tok),(q1,.tok),(wb,.vec (aq w)),(xb,.vec (kL m.to)),(ob,.vec [.sl 1 (some q1) [[.int .i64 m.sign]],.sl 2 (some q) [aV m.use],.int .i64 (w0.cost / 16)])] []);clear hN gW Dn hk;rintro v h' ⟨rfl,zi,zj,Dp,Dq,rfl⟩;have Dr:=List.append_assoc ni ik zi;rw [Dr] at Dp Dq;rw [CK,Dr];(conv=>whnf);repeat ((refine ⟨_,_,.there (.there (.here _)),aR,?_⟩);conv=>whnf)
      refine ⟨_,_,ao.perm (List.Perm.append_right zj ((List.Perm.swap _ _ _).trans (List.perm_append_comm (l₁:=[(q1,Ob.tok),(q,.tok)]) (l₂:=[_,_,_,_])))),_,(by omega),m.to,w.aM,w',L++[m],.sl 1 (some q1) [[.int .i64 m.sign]],.sl 2 (some q) [aV m.use],[(q1,.tok)],[(q,.tok)],zj,ik++zi,wb,xb,ob,rfl,rfl,rfl,cG.to,kZ,by rw [hL,hD,List.append_assoc];rfl,by rw [List.length_append];simp;omega,by omega,Dp,Dq,.inr ⟨q1,q,by rw [Qr];rfl,by rw [Qr];rfl,rfl,rfl⟩⟩
     have Dn:=Qq (E:=E) (cv:=cv) dI (h:=(wb,Ob.vec (aq w))::(xb,.vec (kL x))::(ob,.vec [.sl 1 (some q1) (ints (L.map (·.sign))),.sl 2 (some q2) (L.map fun m=>aV m.use),.int .i64 (w0.cost / 16)])::(tb,ew (ni++ik))::([(q1,.tok)]++([(q2,.tok)]++hp))) (.tail _ (.tail _ (.tail _ (.head _))));have bw:(k,Ob.vec (ch (iW E x) fv ov due))∈[(q1,Ob.tok)]++([(q2,.tok)]++hp):=.tail _ (.tail _ hk);(conv=>whnf);repeat ((first|(refine ⟨.bj k 0,ah Dn,?_⟩)|(refine ⟨_,_,.tail _ (.tail _ (.tail _ (.tail _ bw))),rfl,?_⟩)|(refine dg (enc:=vJ) (w.aO - 1) (by omega) hm ?_)|(refine ⟨_,_,.tail _ (.tail _ (.head _)),rfl,?_⟩)|(refine ⟨(by rw [List.length_append,lS];simp;unfold aU;omega),fun q=>⟨_,.there (.there (.there (.there (.here _)))),?_⟩⟩)|(refine ⟨(by rw [List.length_append,mL];simp;unfold aU;omega),fun q=>⟨_,.there (.there (.there (.there (.there (.here _))))),?_⟩⟩)|(refine ⟨_,_,.there (.there (.here _)),aR,?_⟩)|(refine ⟨_,_,.there (.here _),aR,?_⟩)|refine ⟨_,_,bo.here _,?_⟩|refine ⟨_,_,.head _,rfl,?_⟩|refine ⟨_,_,.tail _ (.head _),rfl,?_⟩|refine ⟨_,_,.here _,aR,?_⟩|refine And.intro (by show aP (aN Tryz.f55 _) _=true;decide +kernel) ?_|intro (nb:Nat));conv=>whnf)
     rename_i qa;refine aB.mono ?_ (Kz hE cG.to hN (aM:=w.aM) (by omega) [(wb,.vec (aq w)),(xb,.vec (kL m.to)),(ob,.vec [.sl 1 (some qa) (ints (L.map (·.sign))++[[.int .i64 m.sign]]),.sl 2 (some q) (L.map (fun m=>aV m.use)++[aV m.use]),.int .i64 (w0.cost / 16)])] [(qa,.tok),(q,.tok)]);clear hN gW Dn hk bw;rintro v h' ⟨rfl,zi,zj,Dp,Dq,rfl⟩;have Dr:=List.append_assoc ni ik zi;rw [Dr] at Dp Dq;rw [CK,Dr];(conv=>whnf);repeat ((refine ⟨_,_,.here _,aR,?_⟩);conv=>whnf)
     refine ⟨_,_,ao.refl _ _,_,(by omega),m.to,w.aM,w',L++[m],.sl 1 (some qa) (ints (L.map (·.sign))++[[.int .i64 m.sign]]),.sl 2 (some q) (L.map (fun m=>aV m.use)++[aV m.use]),[(qa,.tok)],[(q,.tok)],zj,ik++zi,wb,xb,ob,rfl,rfl,rfl,cG.to,kZ,by rw [hL,hD,List.append_assoc];rfl,by rw [List.length_append];simp;omega,by omega,Dp,Dq,.inr ⟨qa,q,by unfold ints;rw [List.map_append,List.map_append];rfl,by rw [List.map_append];rfl,rfl,rfl⟩⟩
    have fm:w.aO=0:=(by omega);obtain ⟨fP,_,_⟩:=Ks hE hx oO fm;(conv=>whnf);repeat ((first|(refine ⟨_,_,.tail _ (.tail _ (.head _)),rfl,?_⟩)|(refine ⟨_,_,.there (.there (.here _)),aR,?_⟩));conv=>whnf)
    refine ⟨_,rfl,?_,ext++ik,hp,((wb,.vec (aq w))::(xb,.vec (kL x))::(ob,.vec [sv,uv,.int .i64 (w0.cost / 16)])::(sh++uh)),by rw [<- List.append_assoc,<- oS];exact hN,?_⟩
    ·unfold vO;rw [hw];have mQ:nU E eK w0=L:=(by rw [hL,fP,List.append_nil]);show ag _ (.aH [.agg (vN (nW E w0)),.bool true]);unfold nW vN;rw [mQ];refine ag.aH (.cons (ag.agg ?_) (.cons (ag.refl _) .nil));rcases ho with ⟨rfl,rfl,rfl,rfl,rfl⟩|⟨q1,q2,rfl,rfl,rfl,rfl⟩
     ·exact .cons (ag.nil (by decide)) (.cons (ag.nil (by decide)) (.cons (ag.refl _) .nil))
     refine .cons ag.sl (.cons ?_ (.cons (ag.refl _) .nil));rw [List.map_map];exact ag.sl
    have rS:es++(ext++ik)=ni++ik:=(by rw [<- List.append_assoc,<- oS]);rw [rS];refine List.Perm.trans ?_ (List.perm_append_comm (l₁:=(wb,.vec (aq w))::(xb,.vec (kL x))::(ob,.vec [sv,uv,.int .i64 (w0.cost / 16)])::(sh++uh)) (l₂:=(tb,ew (ni++ik))::hp));simp only [List.cons_append,List.append_assoc];exact List.Perm.cons _ (List.Perm.cons _ (List.Perm.cons _ (by rw [<- List.append_assoc,<- List.append_assoc];exact List.perm_middle.symm)))
 rintro v h1 ⟨v',rfl,hv,ext,aY,Z,jz,eT⟩;refine ⟨_,_,⟨rfl,ext,aY,jz,rfl⟩,hv,fun k o hm=>eT.mem_iff.2 (List.mem_append_left _ hm),fun hn=>?_⟩;have:=((eT.map (fun p:Nat × Ob=>p.1)).nodup_iff).1 hn;unfold keys;rw [List.map_append] at this;exact (List.nodup_append.1 this).1
end Go.Abs.Wall.Spl
namespace Go.Abs.Wall.Spl
open Go Go.Abs Go.Proofs Go.Abs.Wall
def zk (n:Int):Bool:=!bI n (-1) 1000
def nj (H:aj) (B:bl):Bool:=((decide ((B.aA.length:Int)=H.list.aA.length)&&bI B.dy 0 2)&&bI B.cls 0 2)&&!B.aA.any zk
def iB (H:aj) (B:bl):Int:=if eo H≠0 then eo H else if nj H B=true then 0 else 60
structure pS (B:bl):Prop where
 aA:B.aA.length<=1048576
def c179:az:=⟨[0,1,4,5,7,8,9,16],[],[],[],[],[]⟩
def c124:az:=⟨[0,1,4],[],[],[],[],[]⟩
def c213:az:=⟨[0,1,4,5,7,8,9,16],[],[],[],[],[]⟩
def c143:az:=⟨[0,1,4],[],[],[],[],[]⟩
def c54:az:=⟨[0,1,2,6],[],[],[],[],[]⟩
def c125:az:=⟨[0,2],[],[],[],[],[]⟩
def c66:az:=⟨[0,1,2,3,4],[],[],[],[],[]⟩
def c34:az:=⟨[0,1,2,3,4,5,9,14],[],[],[],[],[]⟩
theorem Qs (l:List Int) (hl:l.length<=aw) (f:FuncId) (bF:List AV) (p:Int->Bool) (hp:∀ w∈l,ae Tryz.prog f (.int .i64 w::bF) [] (.bool (p w))) :
  ae Tryz.prog 124 [.sl 1 none (ints l),.fn f bF] [] (.bool (l.any p)):=by
 have hi:ae Tryz.prog 179 [.sl 1 none (ints l),.fn f bF] [] (.int .i64 (kb p l)):=by
  refine aG (F:=Tryz.f179) c179 rfl rfl rfl mixed rfl fun X=>?_;(conv=>whnf);unfold aw at hl;refine bR rfl mixed [0,1,7,8] [] (fun m r h=>∃ (i:Nat),r=[(0,[],.sl 1 none (ints l)),(1,[],.fn f bF),(7,[],.int .i64 (ints l).length),(8,[],.int .i64 i)]/\h=[]/\m=l.length - i/\i<=l.length/\Below p l i) ?_ ?_
  ·(conv=>whnf);exact ⟨_,0,rfl,rfl,rfl,by omega,.zero⟩
  rintro m r h ⟨i,rfl,rfl,rfl,hi,hg⟩;(conv=>whnf);refine ⟨fun hc=>?_,fun hc=>?_⟩<;>simp [cg] at hc
  ·obtain ⟨x,hx⟩:=aL hc;(conv=>whnf);repeat ((first|refine ix (by assumption) ?_|(refine ae.k0 (hp x (List.mem_of_getElem? hx)) ?_));conv=>whnf)
   refine ⟨fun hd=>?_,fun hd=>?_⟩
   ·(conv=>whnf);exact ⟨by rw [hg.at hx hd],rfl⟩
   (conv=>whnf);repeat (refine ⟨ah ⟨by omega,by omega⟩,?_⟩;conv=>whnf)
   exact ⟨_,by omega,i+1,rfl,rfl,rfl,by omega,hg.succ hx hd⟩
  (conv=>whnf);exact ⟨by rw [hg.end hc],rfl⟩
 refine aG (F:=Tryz.f124) c124 rfl rfl rfl mixed rfl fun X=>?_;(conv=>whnf);refine ae.k0 hi ?_;(conv=>whnf);exact ⟨congrArg AV.bool (vP p l),rfl⟩
theorem XU (l:List ay) (hl:l.length<=aw) (f:FuncId) (bF:List AV) (p:ay->Bool) (hp:∀ w∈l,ae Tryz.prog f (.agg (aV w)::bF) [] (.bool (p w))) :
  ae Tryz.prog 143 [.sl 2 none (l.map aV),.fn f bF] [] (.bool (l.any p)):=by
 have hi:ae Tryz.prog 213 [.sl 2 none (l.map aV),.fn f bF] [] (.int .i64 (kb p l)):=by
  refine aG (F:=Tryz.f213) c213 rfl rfl rfl mixed rfl fun X=>?_;(conv=>whnf);unfold aw at hl;refine bR rfl mixed [0,1,7,8] [] (fun m r h=>∃ (i:Nat),r=[(0,[],.sl 2 none (l.map aV)),(1,[],.fn f bF),(7,[],.int .i64 (l.map aV).length),(8,[],.int .i64 i)]/\h=[]/\m=l.length - i/\i<=l.length/\Below p l i) ?_ ?_
  ·(conv=>whnf);exact ⟨_,0,rfl,rfl,rfl,by omega,.zero⟩
  rintro m r h ⟨i,rfl,rfl,rfl,hi,hg⟩;(conv=>whnf);refine ⟨fun hc=>?_,fun hc=>?_⟩<;>simp at hc
  ·obtain ⟨x,hx⟩:=aL hc;(conv=>whnf);repeat ((first|refine ix (by assumption) ?_|(refine ae.k0 (hp x (List.mem_of_getElem? hx)) ?_));conv=>whnf)
   refine ⟨fun hd=>?_,fun hd=>?_⟩
   ·(conv=>whnf);exact ⟨by rw [hg.at hx hd],rfl⟩
   (conv=>whnf);repeat (refine ⟨ah ⟨by omega,by omega⟩,?_⟩;conv=>whnf)
   exact ⟨_,by omega,i+1,rfl,rfl,rfl,by omega,hg.succ hx hd⟩
  (conv=>whnf);exact ⟨by rw [hg.end hc],rfl⟩
 refine aG (F:=Tryz.f143) c143 rfl rfl rfl mixed rfl fun X=>?_;(conv=>whnf);refine ae.k0 hi ?_;(conv=>whnf);exact ⟨congrArg AV.bool (vP p l),rfl⟩
theorem KA (n lo hi:Int):ae Tryz.prog 54 [.int .i64 n,.int .i64 lo,.int .i64 hi] [] (.bool (bI n lo hi)):=by refine aG (F:=Tryz.f54) c54 rfl rfl rfl mixed rfl fun X=>?_;(conv=>whnf);skip;exact ⟨rfl,rfl⟩
theorem XV (n:Int):ae Tryz.prog 125 [.int .i64 n] [] (.bool (zk n)):=by
 refine aG (F:=Tryz.f125) c125 rfl rfl rfl mixed rfl fun X=>?_;(conv=>whnf);repeat (refine ae.k0 (KA _ _ _) ?_;conv=>whnf)
 exact ⟨rfl,rfl⟩
theorem XW (H:aj) (B:bl) (hB:pS B):ae Tryz.prog 66 [.agg (bu H),.agg (fN B)] [] (.bool (nj H B)):=by
 have hb:=hB.aA;have Gu:=Qs B.aA (by unfold aw;omega) 125 [] zk fun n _=>XV n;have he:nj H B=(((decide (((ints B.aA).length:Int)=((H.list.aA.map iX).length:Int))&&bI B.dy 0 2)&&bI B.cls 0 2)&&!B.aA.any zk):=by unfold nj;rw [cg,List.length_map]
 rw [he];refine aG (F:=Tryz.f66) c66 rfl rfl rfl mixed rfl fun X=>?_;(conv=>whnf);repeat ((first|refine ba (KA _ _ _) ?_|refine ba (Gu) ?_);conv=>whnf)
 exact ⟨rfl,rfl⟩
theorem Ba (H:aj) (B:bl) (hf:dU H) (hB:pS B):ae Tryz.prog 34 [.agg (bu H),.agg (fN B)] [] (.int .i64 (iB H B)):=by
 refine aG (F:=Tryz.f34) c34 rfl rfl rfl mixed rfl fun X=>?_;(conv=>whnf);repeat (refine ae.k0 (GD H hf) ?_;conv=>whnf)
 refine ⟨fun h0=>?_,fun h0=>?_⟩<;>simp at h0
 ·rw [iB,if_pos h0];(conv=>whnf);exact ⟨rfl,rfl⟩
 rw [iB,if_neg (by omega)];(conv=>whnf);repeat (refine ae.k0 (XW H B hB) ?_;conv=>whnf)
 refine ⟨fun h1=>?_,fun h1=>?_⟩
 ·have h1:(!nj H B)=true:=h1;rw [Bool.not_eq_true'] at h1;rw [if_neg (by rw [h1];decide)];(conv=>whnf);exact ⟨rfl,rfl⟩
 have h1:(!nj H B)=false:=h1;rw [Bool.not_eq_false'] at h1;rw [if_pos h1];(conv=>whnf);exact ⟨rfl,rfl⟩
theorem vQ {H:aj} {B:bl} (h:iB H B=0):eo H=0/\nj H B=true:=by
 unfold iB at h;split at h
 ·rename_i h1;exact absurd h h1
 rename_i h1;split at h
 ·rename_i h2;exact ⟨by omega,h2⟩
 cases h
end Go.Abs.Wall.Spl
namespace Go.Abs.Wall.Spl
open Go Go.Abs Go.Proofs Go.Abs.Wall
open Go.Abs.Wall.Lst hiding aq ic lH jx gE dn lI kH lJ lK lL lM lN eA lO ch lP
structure RS where
 part:Int
 done:Int
 last:Int
 cls:Bool
deriving DecidableEq
def partAt (P:List (List UInt8)) (p:Int):List UInt8:=P.getD p.toNat []
def nX (P:List (List UInt8)) (s:RS):Bool:=decide (s.done=(partAt P s.part).length)
def oT (E:Env) (s:RS):Bool:=decide (E.B.dy=2)&&decide (0<s.last)
def xl (P:List (List UInt8)) (s:RS):List UInt8:=(P.take s.part.toNat).flatten++(partAt P s.part).take s.done.toNat
def uE (E:Env) (P:List (List UInt8)) (s:RS) (u:ay) (first:Bool):RS × Bool:=
 if (oT E s&&!decide (u.kind=3))=true then (s,false)
 else if u.kind=1 then
  if nX P s=false then (⟨s.part,s.done+u.text.length,dT u,s.cls⟩,gu ((partAt P s.part).drop s.done.toNat) u.text)
  else (⟨s.part+1,u.text.length,dT u,s.cls⟩,decide (s.part+1<P.length)&&gu (partAt P (s.part+1)) u.text)
 else if u.kind=2 then (⟨s.part,u.text.length,dT u,s.cls⟩,first&&decide (u.text=E.ee.root))
 else if u.kind=3 then (⟨s.part,s.done,0,s.cls⟩,(!decide (E.B.dy=0)&&decide ((u.text.length:Int)<=s.last))&&rQ (xl P s) u.text)
 else if u.kind=4 then (⟨s.part,s.done,0,true⟩,((((!decide (E.B.cls=0))&&nX P s)&&decide (s.part=0))&&!s.cls)&&(!decide (E.ee.cls=[])&&decide (u.text=E.ee.cls)))
 else (⟨s.part,s.done,0,s.cls⟩,false)
def GF (E:Env) (P:List (List UInt8)) (s:RS):Bool:=
 ((decide (s.part=(P.length:Int) - 1)&&nX P s)&&!((decide (E.B.cls=2)&&!decide (E.ee.cls=[]))&&!s.cls))&&!oT E s
def il:List (List UInt8)->Int->List Int
 | [],_=>[]
 | t::r,a=>(a+t.length)::il r (a+t.length)
def cH (P:List (List UInt8)) (p:Int):Int:=((P.take p.toNat).flatten.length:Int)
def toS (P:List (List UInt8)) (n:Int) (s:RS):bJ:=⟨n,cH P s.part+s.done,s.cls,s.last⟩
structure Can (P:List (List UInt8)) (s:RS):Prop where
 part:0<=s.part/\s.part<P.length
 done:0<=s.done/\s.done<=(partAt P s.part).length
 pos:0<s.part->0<s.done
structure tn (E:Env) (P:List (List UInt8)):Prop where
 snd:E.snd=P.flatten
 ef:E.ef=il P 0
 ne:P≠[]
 pos:∀ (i:Nat) t,P[i+1]?=some t->0<t.length
 root:E.ee.root.length<=(partAt P 0).length
 text:∀ us∈E.ai,∀ u∈us,0<u.text.length
 mA:E.mA=if E.ee.cls=[] then 0 else E.H.ct.nY
theorem Ds {P:List (List UInt8)} {p:Int} (h0:0<=p) (h:p<P.length):cH P (p+1)=cH P p+(partAt P p).length:=by obtain ⟨n,rfl⟩:=Int.eq_ofNat_of_zero_le h0;have hn:n<P.length:=(by omega);unfold cH partAt;rw [show ((n:Int)+1).toNat=n+1 by omega,Int.toNat_natCast];obtain ⟨t,ht⟩:=aL hn;rw [List.getD_eq_getElem?_getD,ht,dj ht,List.flatten_append,List.length_append];simp
theorem KB {P:List (List UInt8)} {p q:Int} (h0:0<=p) (h:p<=q):cH P p<=cH P q:=by
 obtain ⟨n,rfl⟩:=Int.eq_ofNat_of_zero_le h0;obtain ⟨d,hd⟩:=Int.eq_ofNat_of_zero_le (a:=q - n) (by omega);obtain rfl:q=n+d:=by omega
 unfold cH;rw [show ((n:Int)+d).toNat=n+d by omega,Int.toNat_natCast,List.take_add,List.flatten_append,List.length_append];omega
theorem GG (P:List (List UInt8)):cH P 0=0:=rfl
theorem Qt (P:List (List UInt8)):cH P P.length=(P.flatten.length:Int):=by unfold cH;rw [Int.toNat_natCast,List.take_length]
theorem Qu:∀ (P:List (List UInt8)) (a x:Int) (n:Nat),n<P.length->a+cH P n<=x->x<a+cH P (n+1)->jo (il P a) x=a+cH P (n+1)
 | [],a,x,n,h,_,_=>by simp at h
 | t::r,a,x,0,h,h1,h2=>by
   have ho:cH (t::r) ((0:Nat)+1)=t.length:=by unfold cH;simp
   rw [ho] at h2 ⊢;rw [il,jo,if_pos h2]
 | t::r,a,x,n+1,h,h1,h2=>by
   have ho:∀ m:Nat,cH (t::r) (m+1)=t.length+cH r m:=by intro m;unfold cH;rw [show ((m:Int)+1).toNat=m+1 by omega];simp
   have h3:=ho n;have h4:=ho (n+1);have h5:=ho (n+1);simp only [List.length_cons] at h;push_cast at h1 h2 h4 ⊢;rw [h3] at h1;rw [h4] at h2 ⊢;have hz:0<=cH r n:=by unfold cH;omega
   rw [il,jo,if_neg (by omega),Qu r (a+t.length) x n (by omega) (by omega) (by omega)];omega
theorem Qv:∀ (P:List (List UInt8)) (a x:Int),a+P.flatten.length<=x->jo (il P a) x=x
 | [],a,x,_=>rfl
 | t::r,a,x,h=>by rw [List.flatten_cons,List.length_append] at h;rw [il,jo,if_neg (by omega),Qv r (a+t.length) x (by push_cast at h;omega)]
theorem Dt {t w:List UInt8}:gu t w=true↔w <+: t:=by
 unfold gu;rw [Bool.and_eq_true,decide_eq_true_eq,decide_eq_true_eq];constructor
 ·rintro ⟨_,h⟩;exact List.prefix_iff_eq_take.2 h.symm
 intro h;exact ⟨by have:=h.length_le;omega,(List.prefix_iff_eq_take.1 h).symm⟩
theorem Qw {A B w:List UInt8}:(decide (w.length<=A.length)&&gu (A++B) w)=gu A w:=by
 rw [Bool.eq_iff_iff,Bool.and_eq_true,decide_eq_true_eq,Dt,Dt];constructor
 ·rintro ⟨h1,h2⟩;exact List.prefix_of_prefix_length_le h2 (List.prefix_append A B) h1
 intro h;exact ⟨h.length_le,h.trans (List.prefix_append A B)⟩
theorem KC {P:List (List UInt8)} {n:Nat} {t:List UInt8} (h:P[n]?=some t):P.flatten=(P.take n).flatten++(t++(P.drop (n+1)).flatten):=by
 conv=>lhs;rw [<- List.take_append_drop n P,drop_cons h]
 rw [List.flatten_append,List.flatten_cons]
theorem XX {P:List (List UInt8)} {s:RS} (hc:Can P s):P.flatten.drop (cH P s.part+s.done).toNat=(partAt P s.part).drop s.done.toNat++(P.drop (s.part.toNat+1)).flatten:=by
 have h1:=hc.part;have h2:=hc.done;obtain ⟨t,ht⟩:=aL (l:=P) (i:=s.part.toNat) (by omega);have hp:partAt P s.part=t:=by unfold partAt;rw [List.getD_eq_getElem?_getD,ht];rfl
 rw [hp] at h2 ⊢;rw [KC ht];have hl:(cH P s.part+s.done).toNat=((P.take s.part.toNat).flatten).length+s.done.toNat:=by unfold cH;omega
 rw [hl,List.drop_append,List.drop_eq_nil_of_le (by omega),List.nil_append];rw [show (P.take s.part.toNat).flatten.length+s.done.toNat - (P.take s.part.toNat).flatten.length=s.done.toNat by omega,List.drop_append_of_le_length (by omega)]
theorem XY {P:List (List UInt8)} {s:RS} (hc:Can P s):P.flatten.take (cH P s.part+s.done).toNat=xl P s:=by
 have h1:=hc.part;have h2:=hc.done;obtain ⟨t,ht⟩:=aL (l:=P) (i:=s.part.toNat) (by omega);have hp:partAt P s.part=t:=by unfold partAt;rw [List.getD_eq_getElem?_getD,ht];rfl
 unfold xl;rw [hp] at h2 ⊢;rw [KC ht];have hl:(cH P s.part+s.done).toNat=((P.take s.part.toNat).flatten).length+s.done.toNat:=by unfold cH;omega
 rw [hl,List.take_append,List.take_of_length_le (by omega)];rw [show (P.take s.part.toNat).flatten.length+s.done.toNat - (P.take s.part.toNat).flatten.length=s.done.toNat by omega,List.take_append_of_le_length (by omega)]
theorem tn.len {E:Env} {P:List (List UInt8)} (h:tn E P):0<P.length:=List.length_pos_iff.2 h.ne
theorem tn.Qx {E:Env} {P:List (List UInt8)} (h:tn E P) {p:Int} (h0:0<p) (h1:p<P.length):0<(partAt P p).length:=by obtain ⟨i,hi⟩:=Int.eq_ofNat_of_zero_le (a:=p - 1) (by omega);obtain ⟨t,ht⟩:=aL (l:=P) (i:=i+1) (by omega);have:=h.pos i t ht;unfold partAt;rw [show p.toNat=i+1 by omega,List.getD_eq_getElem?_getD,ht];exact this
theorem tn.head {E:Env} {P:List (List UInt8)} (h:tn E P):E.ef.headD 0=(partAt P 0).length:=by
 rw [h.ef];have:=h.ne;cases P with
 | nil=>exact absurd rfl this
 | cons t r=>
   show (0:Int)+t.length=t.length;omega
theorem tn.Qy {E:Env} {P:List (List UInt8)} (h:tn E P) {p x:Int} (h0:0<=p) (h1:p<P.length) (h2:cH P p<=x) (h3:x<cH P (p+1)):jo E.ef x=cH P (p+1):=by obtain ⟨n,rfl⟩:=Int.eq_ofNat_of_zero_le h0;rw [h.ef,Qu P 0 x n (by omega) (by omega) (by omega)];omega
theorem XZ {E:Env} {P:List (List UInt8)} (hP:tn E P) {n:Int} {s:RS} (hc:Can P s) (hn:n=0->s.part=0) {u:ay} (hu:0<u.text.length) :
  (uE E P s u (decide (n=0))).2=(aX E (toS P n s) u).2/\((aX E (toS P n s) u).2=true->toS P (n+1) (uE E P s u (decide (n=0))).1=(aX E (toS P n s) u).1/\Can P (uE E P s u (decide (n=0))).1):=by
 have h1:=hc.part;have h2:=hc.done;have GH:=Ds h1.1 h1.2;unfold uE aX;have hm:(oT E s&&!decide (u.kind=3))=((decide (E.B.dy=2)&&decide (0<(toS P n s).hv))&&!decide (u.kind=3)):=rfl;rw [<- hm];by_cases h0:(oT E s&&!decide (u.kind=3))=true
 ·rw [if_pos h0,if_pos h0];exact ⟨rfl,fun h=>by cases h⟩
 rw [if_neg h0,if_neg h0];by_cases k1:u.kind=1
 ·rw [if_pos k1,if_pos k1];by_cases hw:nX P s=false
  ·rw [if_pos hw];have aI:s.done<(partAt P s.part).length:=by unfold nX at hw;have:=of_decide_eq_false hw;omega
   have he:jo E.ef (toS P n s).at_=cH P (s.part+1):=hP.Qy h1.1 h1.2 (by show cH P s.part<=cH P s.part+s.done;omega) (by show cH P s.part+s.done<_;omega);have hb:gu ((partAt P s.part).drop s.done.toNat) u.text=uC E.snd u.text (toS P n s).at_ (jo E.ef (toS P n s).at_):=by rw [he];unfold uC;rw [hP.snd];show _=(decide (cH P s.part+s.done+u.text.length<=_)&&gu (P.flatten.drop (cH P s.part+s.done).toNat) u.text);rw [XX hc,GH,<- Qw (A:=(partAt P s.part).drop s.done.toNat) (B:=(P.drop (s.part.toNat+1)).flatten)];congr 1;rw [List.length_drop];exact decide_eq_decide.2 (by omega)
   refine ⟨hb,fun ht=>⟨?_,?_⟩⟩
   ·show (⟨n+1,cH P s.part+(s.done+u.text.length),s.cls,dT u⟩:bJ)=⟨n+1,cH P s.part+s.done+u.text.length,s.cls,dT u⟩;rw [Int.add_assoc]
   have ht:=hb.trans ht;have:=(Dt.1 ht).length_le;rw [List.length_drop] at this;exact ⟨h1,⟨by show 0<=s.done+(u.text.length:Int);omega,by show s.done+(u.text.length:Int)<=((partAt P s.part).length:Int);omega⟩,fun _=>by show 0<s.done+(u.text.length:Int);omega⟩
  rw [if_neg hw];have W6:s.done=(partAt P s.part).length:=by unfold nX at hw;exact of_decide_eq_true (by simpa using hw)
  have cM:(toS P n s).at_=cH P (s.part+1):=by show cH P s.part+s.done=_;omega
  by_cases hl:s.part+1<P.length
  ·have qH:=Ds (P:=P) (p:=s.part+1) (by omega) hl;have W7:=hP.Qx (p:=s.part+1) (by omega) hl;have he:jo E.ef (toS P n s).at_=cH P (s.part+1+1):=hP.Qy (by omega) hl (by rw [cM];exact Int.le_refl _) (by rw [cM];omega);have ck:Can P ⟨s.part+1,0,0,false⟩->False->True:=fun _ _=>trivial
   have hd:P.flatten.drop (cH P (s.part+1)).toNat=partAt P (s.part+1)++(P.drop ((s.part+1).toNat+1)).flatten:=by
    obtain ⟨t,ht⟩:=aL (l:=P) (i:=(s.part+1).toNat) (by omega);have hp:partAt P (s.part+1)=t:=by unfold partAt;rw [List.getD_eq_getElem?_getD,ht];rfl
    rw [hp,KC ht];unfold cH;rw [Int.toNat_natCast,List.drop_left]
   have hb:(decide (s.part+1<P.length)&&gu (partAt P (s.part+1)) u.text)=uC E.snd u.text (toS P n s).at_ (jo E.ef (toS P n s).at_):=by rw [he,cM,decide_eq_true hl,Bool.true_and];unfold uC;rw [hP.snd,hd,qH,<- Qw (A:=partAt P (s.part+1)) (B:=(P.drop ((s.part+1).toNat+1)).flatten)];congr 1;exact decide_eq_decide.2 (by omega)
   refine ⟨hb,fun ht=>⟨?_,?_⟩⟩
   ·show (⟨n+1,cH P (s.part+1)+u.text.length,s.cls,dT u⟩:bJ)=⟨n+1,(toS P n s).at_+u.text.length,s.cls,dT u⟩;rw [cM]
   have ht:=hb.trans ht;rw [decide_eq_true hl,Bool.true_and] at ht;have:=(Dt.1 ht).length_le;exact ⟨⟨by show 0<=s.part+1;omega,hl⟩,⟨by show (0:Int)<=u.text.length;omega,by show (u.text.length:Int)<=(partAt P (s.part+1)).length;omega⟩,fun _=>by show (0:Int)<u.text.length;omega⟩
  have ej:s.part+1=P.length:=(by omega);have dP:cH P (s.part+1)=(P.flatten.length:Int):=(by rw [ej,Qt]);have he:jo E.ef (toS P n s).at_=(toS P n s).at_:=by rw [hP.ef];exact Qv P 0 _ (by rw [cM,dP];omega)
  have hb:uC E.snd u.text (toS P n s).at_ (jo E.ef (toS P n s).at_)=false:=by rw [he];unfold uC;rw [decide_eq_false (by omega),Bool.false_and]
  rw [decide_eq_false hl,Bool.false_and];exact ⟨hb.symm,fun ht=>by rw [hb] at ht;cases ht⟩
 rw [if_neg k1,if_neg k1];by_cases k2:u.kind=2
 ·rw [if_pos k2,if_pos k2];refine ⟨rfl,fun ht=>?_⟩;have ht:(decide (n=0)&&decide (u.text=E.ee.root))=true:=ht;rw [Bool.and_eq_true,decide_eq_true_eq,decide_eq_true_eq] at ht;have fP:=hn ht.1;have hr:=hP.root;rw [<- ht.2] at hr;refine ⟨?_,?_⟩
  ·show (⟨n+1,cH P s.part+u.text.length,s.cls,dT u⟩:bJ)=⟨n+1,u.text.length,s.cls,dT u⟩;rw [fP,GG,Int.zero_add]
  exact ⟨h1,⟨by show (0:Int)<=u.text.length;omega,by show (u.text.length:Int)<=(partAt P s.part).length;rw [fP];omega⟩,fun _=>by show (0:Int)<u.text.length;omega⟩
 rw [if_neg k2,if_neg k2];have hv:jZ u=false:=by unfold jZ;rw [decide_eq_false k1,decide_eq_false k2];rfl
 have dT:dT u=0:=by unfold Go.Abs.Wall.Spl.dT;rw [hv];rfl
 by_cases k3:u.kind=3
 ·rw [if_pos k3,if_pos k3];refine ⟨?_,fun ht=>⟨?_,?_⟩⟩
  ·show _=((!decide (E.B.dy=0)&&decide ((u.text.length:Int)<=s.last))&&rQ (E.snd.take (cH P s.part+s.done).toNat) u.text);rw [hP.snd,XY hc]
  ·show (⟨n+1,cH P s.part+s.done,s.cls,0⟩:bJ)=⟨n+1,cH P s.part+s.done,s.cls,Go.Abs.Wall.Spl.dT u⟩;rw [dT]
  exact ⟨h1,h2,hc.pos⟩
 rw [if_neg k3,if_neg k3];by_cases k4:u.kind=4
 ·rw [if_pos k4,if_pos k4]
  have cM:(toS P n s).at_=(partAt P 0).length↔(s.part=0/\s.done=(partAt P s.part).length):=by
   show cH P s.part+s.done=_↔_;constructor
   ·intro h;by_cases hp:s.part=0
    ·rw [hp,GG] at h;refine ⟨hp,?_⟩;rw [hp];omega
    have h3:=KB (P:=P) (p:=0+1) (q:=s.part) (by omega) (by omega);have h4:=Ds (P:=P) (p:=0) (by omega) (by omega);have:=hc.pos (by omega);rw [GG] at h4;omega
   rintro ⟨hp,h⟩;rw [hp] at h ⊢;rw [GG];omega
  refine ⟨?_,fun ht=>⟨?_,?_⟩⟩
  ·show (((((!decide (E.B.cls=0))&&nX P s)&&decide (s.part=0))&&!s.cls)&&(!decide (E.ee.cls=[])&&decide (u.text=E.ee.cls)))=((((!decide (E.B.cls=0))&&!s.cls)&&decide (u.text=E.ee.cls))&&decide ((toS P n s).at_=E.ef.headD 0));have CD:decide ((toS P n s).at_=((partAt P 0).length:Int))=(decide (s.part=0)&&decide (s.done=((partAt P s.part).length:Int))):=by rw [Bool.eq_iff_iff,Bool.and_eq_true,decide_eq_true_eq,decide_eq_true_eq,decide_eq_true_eq];exact cM
   rw [hP.head,CD]
   have he:(!decide (E.ee.cls=[])&&decide (u.text=E.ee.cls))=decide (u.text=E.ee.cls):=by
    by_cases e:u.text=E.ee.cls
    ·have:E.ee.cls≠[]:=by rw [<- e];exact List.length_pos_iff.1 hu
     rw [decide_eq_false this,decide_eq_true e];rfl
    rw [decide_eq_false e,Bool.and_false]
   rw [he];unfold nX;by_cases a1:E.B.cls=0<;>by_cases a2:s.part=0<;>by_cases a3:s.done=(partAt P s.part).length<;>by_cases a4:u.text=E.ee.cls<;>cases s.cls<;>simp [a1,a2,a3,a4]
  ·show (⟨n+1,cH P s.part+s.done,true,0⟩:bJ)=⟨n+1,cH P s.part+s.done,true,Go.Abs.Wall.Spl.dT u⟩;rw [dT]
  exact ⟨h1,h2,hc.pos⟩
 rw [if_neg k4,if_neg k4];exact ⟨rfl,fun h=>by cases h⟩
theorem Ya {E:Env} {P:List (List UInt8)} (hP:tn E P) {n:Int} (hn:n≠0) {s:RS} (hc:Can P s) :
  (gv E (toS P n s)).2=GF E P s/\(GF E P s=true->(gv E (toS P n s)).1=E.kK+if (!decide (E.ee.cls=[])&&!s.cls)=true then E.H.ct.nY else 0):=by
 have h1:=hc.part;have h2:=hc.done;have GH:=Ds h1.1 h1.2
 have hw:(cH P s.part+s.done<(E.snd.length:Int))↔¬ (s.part=(P.length:Int) - 1/\s.done=(partAt P s.part).length):=by
  rw [hP.snd,<- Qt];have hm:=KB (P:=P) (p:=s.part+1) (q:=P.length) (by omega) (by omega);constructor
  ·rintro h ⟨h3,h4⟩;rw [show s.part+1=(P.length:Int) by omega] at GH;omega
  intro h;by_cases h3:s.part=(P.length:Int) - 1
  ·rw [show s.part+1=(P.length:Int) by omega] at GH;have:s.done≠(partAt P s.part).length:=fun e=>h ⟨h3,e⟩;omega
  have h4:=Ds (P:=P) (p:=s.part+1) (by omega) (by omega);have h5:=hP.Qx (p:=s.part+1) (by omega) (by omega);have h6:=KB (P:=P) (p:=s.part+1+1) (q:=P.length) (by omega) (by omega);omega
 unfold gv GF nX;show (if (decide (n=0)||(decide (cH P s.part+s.done<(E.snd.length:Int))||oT E s))=true then ((0:Int),false) else if (s.cls||decide (E.ee.cls=[]))=true then (E.kK,true) else (E.kK+E.mA,!decide (E.B.cls=2))).2=_/\(_->(if (decide (n=0)||(decide (cH P s.part+s.done<(E.snd.length:Int))||oT E s))=true then ((0:Int),false) else if (s.cls||decide (E.ee.cls=[]))=true then (E.kK,true) else (E.kK+E.mA,!decide (E.B.cls=2))).1=_);rw [decide_eq_false hn,Bool.false_or,hP.mA];by_cases a:s.part=(P.length:Int) - 1/\s.done=(partAt P s.part).length
 ·rw [decide_eq_false (p:=cH P s.part+s.done<(E.snd.length:Int)) (by rw [hw];exact fun h=>h a),decide_eq_true a.1,decide_eq_true a.2];cases oT E s<;>by_cases b:E.ee.cls=[]<;>cases s.cls<;>by_cases c:E.B.cls=2<;>simp [b,c]
 rw [decide_eq_true (p:=cH P s.part+s.done<(E.snd.length:Int)) (hw.2 a)];have:(decide (s.part=(P.length:Int) - 1)&&decide (s.done=(partAt P s.part).length))=false:=by rw [<- Bool.not_eq_true,Bool.and_eq_true,decide_eq_true_eq,decide_eq_true_eq];exact a
 rw [this];exact ⟨rfl,fun h=>by cases h⟩
end Go.Abs.Wall.Spl
namespace Go.Abs.Wall.Spl
open Go Go.Abs Go.Proofs Go.Abs.Wall
open Go.Abs.Wall.Lst hiding aq ic lH jx gE dn lI kH lJ lK lL lM lN eA lO ch lP pC rI bY jW oN mV pD getAll
def cI (x:Lex) (f:aZ):List (List UInt8):=kc x f::f.ar.map fun c=>(cQ x c).text
def lY (H:aj):List (List ay):=(List.range H.list.aA.length).map fun (i:Nat)=>gn H (i:Int)
def cD (H:aj) (B:bl) (f:aZ):Env:=⟨H,B,bZ H.lex f.entry,qN H.lex f,il (cI H.lex f) 0,nm H.lex f,if (bZ H.lex f.entry).cls=[] then 0 else H.ct.nY,lY H⟩
def iY (H:aj) (B:bl) (f:aZ):Int:=if iB H B≠0 then iB H B else dZ H.lex f
theorem Qz {H:aj} {B:bl} (h:nj H B=true):B.aA.length=H.list.aA.length/\(0<=B.dy/\B.dy<=2)/\(0<=B.cls/\B.cls<=2)/\∀ n∈B.aA,-1<=n/\n<=1000:=by unfold nj at h;simp only [Bool.and_eq_true,decide_eq_true_eq,dY,Bool.not_eq_true',List.any_eq_false] at h;obtain ⟨⟨⟨h1,h2⟩,h3⟩,h4⟩:=h;refine ⟨by omega,h2,h3,fun n hn=>?_⟩;have:=h4 n hn;unfold zk at this;rw [Bool.not_eq_true',Bool.not_eq_false] at this;exact dY.1 this
theorem KD:∀ (P:List (List UInt8)) (a:Int),(il P a).length=P.length
 | [],_=>rfl
 | t::r,a=>by rw [il,List.length_cons,List.length_cons,KD r]
theorem QA:∀ (P:List (List UInt8)) (a:Int),0<=a->∀ n∈il P a,0<=n/\n<=a+P.flatten.length
 | [],_,_,n,hn=>by cases hn
 | t::r,a,ha,n,hn=>by
   rw [List.flatten_cons,List.length_append];rcases List.mem_cons.1 hn with rfl|hn
   ·push_cast;omega
   have:=QA r (a+t.length) (by omega) n hn;push_cast;omega
theorem QB:∀ (P:List (List UInt8)) (a:Int) (t:List UInt8),il (P++[t]) a=il P a++[a+(P.flatten.length+t.length)]
 | [],a,t=>by simp [il]
 | x::r,a,t=>by rw [List.cons_append,il,QB r,il,List.flatten_cons,List.length_append];show _::(_++_)=_::(_++_);congr 3;push_cast;omega
theorem Yb (x:Lex) (f:aZ):(cI x f).flatten=qN x f:=rfl
theorem QC {H:aj} {i:Nat} {us:List ay} (h:(lY H)[i]?=some us):i<H.list.aA.length/\us=gn H i:=by
 unfold lY at h;rw [List.getElem?_map] at h;cases hr:(List.range H.list.aA.length)[i]? with
 | none=>rw [hr] at h;cases h
 | some j=>
   rw [hr] at h;have hi:=(List.getElem?_eq_some_iff.1 hr).1;rw [List.length_range] at hi;rw [List.getElem?_range hi] at hr;cases hr
   exact ⟨hi,by simpa using h.symm⟩
theorem KE (H:aj):(lY H).length=H.list.aA.length:=by unfold lY;simp
theorem Yc {H:aj} {i:Nat} (h:i<H.list.aA.length):(lY H)[i]?=some (gn H i):=by unfold lY;rw [List.getElem?_map,List.getElem?_range h];rfl
theorem GI {H:aj} (hH:jg H) {us:List ay} (h:us∈lY H):us.length<=24/\∀ u∈us,iu u:=by obtain ⟨i,hi⟩:=List.mem_iff_getElem?.1 h;obtain ⟨h1,rfl⟩:=QC hi;have bf:=(qA hH.nN).each _ (List.mem_of_getElem? (vg (H:=H) (n:=i) (by omega) (by omega)));exact Cn bf
theorem Du {H:aj} {B:bl} {f:aZ} (h0:eo H=0) (hr:nj H B=true) (hf:lZ H.lex f):jE (cD H B f):=by
 have hH:=vR h0;obtain ⟨hl,_,_,hs⟩:=Qz hr;have aF:=hf.GJ;have bz:=GK hf.lex hf.ed;have dw:=hf.bB;have hw:=hf.kK;have eu:(qN H.lex f).length<=24:=by unfold qN;rw [List.length_append];omega
 refine ⟨by rw [show (cD H B f).ai=lY H from rfl,KE];exact hl,by rw [show (cD H B f).ai=lY H from rfl,KE];exact (qA hH.nN).many,fun us bd=>by have:=(GI hH bd).1;omega,fun us bd u hu=>((GI hH bd).2 u hu).2.2.2,hs,by show (qN H.lex f).length<=1000;omega,?_,⟨?_,?_,?_⟩,⟨hw.1,by show nm H.lex f<=100000;omega⟩,?_,hH.ct⟩
 ·show (bZ H.lex f.entry).root.length<=(qN H.lex f).length;unfold qN kc;rw [List.length_append,List.length_append];omega
 ·show il (cI H.lex f) 0≠[];unfold cI;rw [il];simp
 ·show (il (cI H.lex f) 0).length<=1000;rw [KD];unfold cI;rw [List.length_cons,List.length_map];omega
 ·intro n hn;have:=QA (cI H.lex f) 0 (Int.le_refl _) n hn;rw [Yb] at this;exact ⟨this.1,by show n<=((qN H.lex f).length:Int);omega⟩
 show 0<=(if (bZ H.lex f.entry).cls=[] then (0:Int) else H.ct.nY)/\(if (bZ H.lex f.entry).cls=[] then (0:Int) else H.ct.nY)<=1000;split
 ·omega
 exact hH.ct _ (by simp [iV])
theorem QD {H:aj} {B:bl} {f:aZ} (h0:eo H=0) (hf:lZ H.lex f):tn (cD H B f) (cI H.lex f):=by
 have hH:=vR h0;refine ⟨rfl,rfl,by unfold cI;simp,fun i t ht=>?_,?_,fun us bd u hu=>((GI hH bd).2 u hu).2.2.1,rfl⟩
 ·unfold cI at ht;rw [List.getElem?_cons_succ,List.getElem?_map] at ht;cases hc:f.ar[i]? with
  | none=>rw [hc] at ht;cases ht
  | some c=>
    rw [hc] at ht;cases ht
    have hb:=hf.ed c (List.mem_of_getElem? hc);have:=np (hf.lex.cQ hb.1 hb.2).text;show 0<(cQ H.lex c).text.length;omega
 show (bZ H.lex f.entry).root.length<=(partAt (cI H.lex f) 0).length;show (bZ H.lex f.entry).root.length<=(kc H.lex f).length;unfold kc;rw [List.length_append];omega
def qO (x:Lex) (f:aZ) (i:Nat):List UInt8:=kc x f++kd x (f.ar.take i)
def qP (x:Lex) (f:aZ) (i:Nat):List Int:=il (kc x f::(f.ar.take i).map fun c=>(cQ x c).text) 0
theorem Yd (x:Lex) (f:aZ):qO x f 0=kc x f:=by unfold qO kd;simp
theorem Ye (x:Lex) (f:aZ):qP x f 0=[((kc x f).length:Int)]:=by unfold qP;simp [il]
theorem Yf {x:Lex} {f:aZ} (hf:lZ x f) (i:Nat):(qO x f i).length<=24:=by have h1:=hf.GJ;have h2:=hf.bB;have h3:=GK hf.lex (l:=f.ar.take i) fun c hc=>hf.ed c (List.mem_of_mem_take hc);rw [List.length_take] at h3;unfold qO;rw [List.length_append];omega
theorem Yg {x:Lex} {f:aZ} (hf:lZ x f) (i:Nat):(qP x f i).length<=4:=by have h2:=hf.bB;unfold qP;rw [KD,List.length_cons,List.length_map,List.length_take];omega
theorem KG {x:Lex} {f:aZ} {i:Nat} {c:Int} (hc:f.ar[i]?=some c):qO x f (i+1)=qO x f i++(cQ x c).text:=by unfold qO;rw [dj hc,QE,List.append_assoc]
theorem Yh {x:Lex} {f:aZ} {i:Nat} {c:Int} (hc:f.ar[i]?=some c):qP x f (i+1)=qP x f i++[((qO x f (i+1)).length:Int)]:=by have h1:=KG (x:=x) hc;unfold qP;rw [dj hc,List.map_append,<- List.cons_append,List.map_singleton,QB,h1];unfold qO kd;rw [List.flatten_cons,List.length_append,List.length_append,List.length_append];congr 2;push_cast;omega
theorem Yi (x:Lex) (f:aZ):qO x f f.ar.length=qN x f:=by unfold qO;rw [List.take_length];rfl
theorem Yj (x:Lex) (f:aZ):qP x f f.ar.length=il (cI x f) 0:=by unfold qP;rw [List.take_length];rfl
def c103:az:=⟨[0,1,2,3,4,5,21],[],[],[],[],[]⟩
def c53:az:=⟨[0,1,2,3,4,5,6,7,8,9,10,12,13,14,15,20,27,62,63,64,65,112,113,114,123],[41,58],[],[],[(13,[0,1,2,3,4,5,6,7,8,9,10,11,12,13,14],[]),(14,[0,1,2,3,4,5,6,7,8,9,10,11,12,13,14],[])],[]⟩
theorem Yk (H:aj) (f:aZ) (hx:rT H.lex) (hf:lZ H.lex f) (h0:dZ H.lex f=0):ae Tryz.prog 103 [.agg (bu H),.agg (eZ f)] [] (.aH [.int .i64 (nm H.lex f),.int .i64 (if (bZ H.lex f.entry).cls=[] then 0 else H.ct.nY)]):=by
 have dw:=hf.bB;have hW:=QF H.lex f hx (by unfold aw;omega);rw [if_pos h0] at hW;refine aG (F:=Tryz.f103) c103 rfl rfl rfl mixed rfl fun X=>?_;(conv=>whnf);repeat ((first|refine ae.k0 (hW) ?_|(refine dg f.entry.toNat (by have:=hf.entry;omega) (nZ hf.entry.1 hf.entry.2) ?_));conv=>whnf)
 refine ⟨fun hc=>?_,fun hc=>?_⟩<;>simp at hc
 ·rw [if_neg hc];(conv=>whnf);skip;exact ⟨rfl,rfl⟩
 rw [if_pos hc];(conv=>whnf);skip;exact ⟨rfl,rfl⟩
theorem GL:∀ {xs ys zl QG:List AV},cW xs ys->cW zl QG->cW (xs++zl) (ys++QG)
 | _,_,_,_,.nil,h=>h
 | _,_,_,_,.cons h1 h2,h=>.cons h1 (GL h2 h)
def vS:List (bJ × Int)->Ob:=fun es=>.map (pN vL (AV.int .i64) es)
def Dv (H:aj) (B:bl) (f:aZ) (sv:List UInt8) (bv uv:AV) (wg ms:Int) (nb cb:Nat):List AV:=bu H++(fN B++(fJ (bZ H.lex f.entry)++[.str sv,bv,.int .i64 wg,.int .i64 ms,uv,.omap nb,.omap cb]))
theorem Jw (H:aj) (B:bl) (f:aZ) (hh:dU H) (hB:pS B) (dP:f.ar.length<=aw) :
  aB Tryz.prog 53 [.agg (bu H),.agg (fN B),.agg (eZ f)] []
   (fun v h'=>(iY H B f≠0/\v=.aH [.kA,.int .i64 (iY H B f)]/\h'=[])\/(iY H B f=0/\∃ nb cb,v=.aH [.au (lj (cD H B f) (.omap nb) (.omap cb)),.int .i64 0]/\h'=[(nb,ew []),(cb,vS [])])):=by
 have Gu:=Cp H.lex f hh.lex dP;have aF:=Yl H.lex f hh.lex dP;have gW:=hh.list.aA;unfold aw at gW
 have key:aB Tryz.prog 53 [.agg (bu H),.agg (fN B),.agg (eZ f)] []
   (fun v h'=>(iY H B f≠0/\v=.aH [.kA,.int .i64 (iY H B f)])\/(iY H B f=0/\∃ sb nb cb bv bh uv uh,v=.aH [.bj sb 0,.int .i64 0]/\Out 1 (fun n=>[AV.int .i64 n]) (il (cI H.lex f) 0) bv bh/\Out 1 fW (lY H) uv uh /\
     h'.Perm ((sb,.vec (Dv H B f (qN H.lex f) bv uv (nm H.lex f) (cD H B f).mA nb cb))::(nb,ew [])::(cb,vS [])::(bh++uh)))):=by
  refine aG (F:=Tryz.f53) c53 rfl rfl rfl mixed rfl fun X=>?_;(conv=>whnf);repeat (refine ae.k0 (Ba H B hh hB) ?_;conv=>whnf)
  refine ⟨fun h0=>?_,fun h0=>?_⟩<;>simp at h0
  ·(conv=>whnf);left;unfold iY;rw [if_pos h0];exact ⟨h0,rfl⟩
  (conv=>whnf);repeat (refine ae.k0 (Gu) ?_;conv=>whnf)
  have Gm:iY H B f=dZ H.lex f:=by unfold iY;rw [if_neg (by omega)]
  refine ⟨fun h1=>?_,fun h1=>?_⟩<;>simp at h1
  ·(conv=>whnf);left;rw [Gm];exact ⟨h1,rfl⟩
  obtain ⟨fm,pt⟩:=vQ h0;have hH:=vR fm;have hf:=mn h1;have dw:=hf.bB;have QH:=Yk H f hh.lex hf h1;rw [if_pos h1,h1] at aF;have eu:=hf.GJ;(conv=>whnf);refine Ym rfl mixed [0,1,2,3,4,5,6,7,8] [9,10] [11,12,13] [] (by show aP (aN Tryz.f53 _) _=true;decide +kernel) ?_;(conv=>whnf);repeat ((refine dg f.entry.toNat (by have:=hf.entry;omega) (nZ hf.entry.1 hf.entry.2) ?_);conv=>whnf)
  apply Yn
  ·intro key;refine ⟨by first|decide +kernel|rfl,?_,?_,trivial⟩
   ·(conv=>whnf);refine ⟨by first|decide +kernel|rfl,?_⟩;(conv=>whnf);intro n1;(conv=>whnf);refine ⟨by first|decide +kernel|rfl,?_,trivial⟩;(conv=>whnf);refine ⟨by first|decide +kernel|rfl,?_⟩;(conv=>whnf);intro n2;(conv=>whnf);repeat (intro (nb:Nat);conv=>whnf)
    exact ⟨_,_,ao.refl _ _,key n1 n2 nb⟩
   (conv=>whnf);refine ⟨by first|decide +kernel|rfl,?_⟩;(conv=>whnf);intro n2;(conv=>whnf);refine ⟨by first|decide +kernel|rfl,?_,trivial⟩;(conv=>whnf);refine ⟨by first|decide +kernel|rfl,?_⟩;(conv=>whnf);intro n1;(conv=>whnf);repeat (intro (nb:Nat);conv=>whnf)
   exact ⟨_,_,ao.perm (.cons _ (.swap _ _ _)),key n1 n2 nb⟩
  intro n1 n2 b;(conv=>whnf);repeat ((first|refine ae.k0 (aF) ?_|(refine ⟨_,_,.here _,aR,?_⟩)|refine ⟨_,_,.head _,rfl,?_⟩|refine ⟨_,_,.there (.here _),aR,?_⟩|intro (nb:Nat));conv=>whnf)
  refine bW rfl mixed [3,5,10,62,63,64] [] (fun m r h=>∃ (i:Nat) (q sb n1 n2:Nat),r=[(3,[],.au (bu H)),(5,[],.au (eZ f)),(10,[],.bj sb 0),(62,[],.sl 1 none (ints f.ar)),(63,[],.int .i64 (ints f.ar).length),(64,[],.int .i64 i)]/\h=(q,.tok)::(sb,.vec (Dv H B f (qO H.lex f i) (.sl 1 (some q) (ints (qP H.lex f i))) .aT 0 0 n1 n2))::(n2,.map [])::[(n1,.map [])]/\m=f.ar.length - i/\i<=f.ar.length) ?_ ?_
  ·(conv=>whnf);exact ⟨_,_,ao.refl _ _,_,0,nb,b,n1,n2,rfl,by rw [Yd,Ye];rfl,rfl,by omega⟩
  rintro m r h' ⟨i,q,sb,n1,n2,rfl,rfl,rfl,hi⟩;(conv=>whnf);refine ⟨fun hz=>?_,fun hz=>?_⟩<;>simp [cg] at hz
  ·obtain ⟨c,hc⟩:=aL hz;have gJ:=hf.ed c (List.mem_of_getElem? hc);have uF:=np (hf.lex.cQ gJ.1 gJ.2).text;have AR:=Yf hf i;have Dw:(ints (qP H.lex f i)).length<=4:=by rw [cg];exact Yg hf i
   (conv=>whnf);repeat ((first|refine ⟨ah ⟨by omega,by omega⟩,?_⟩|refine ix (by assumption) ?_|(refine dg c.toNat (by omega) (ll gJ.1 gJ.2) ?_)|(refine ⟨ah (by rw [List.length_append];unfold aw;omega),?_⟩)|(refine ⟨_,_,.tail _ (.head _),rfl,?_⟩)|(refine ⟨_,_,.there (.here _),aR,?_⟩)|(refine ⟨(by rw [List.length_append,List.length_singleton];unfold aU;omega),fun q'=>⟨_,.here _,?_⟩⟩)|refine And.intro (by show aP (aN Tryz.f53 _) _=true;decide +kernel) ?_);conv=>whnf)
   refine ⟨_,_,ao.refl _ _,_,(by omega),i+1,q',sb,n1,n2,rfl,?_,rfl,by omega⟩;have h1:ints (qP H.lex f (i+1))=ints (qP H.lex f i)++[[.int .i64 ((qO H.lex f i++(cQ H.lex c).text).length:Nat)]]:=by rw [Yh hc,KG hc];unfold ints;rw [List.map_append];rfl
   rw [h1,KG hc];rfl
  have bC:i=f.ar.length:=(by omega);subst bC;rw [Yi,Yj]
  have zm:∀ (j:Nat),j<H.list.aA.length->ae Tryz.prog 104 [.agg (bu H),.int .i64 j] [] (.aH [.sl 2 none ((gn H j).map aV),.int .i64 0]):=by
   intro j hj;have hU:=Yo H j hh;have he:uG H j=0:=by unfold uG;rw [if_neg (by omega),if_neg];rw [Bool.not_eq_false,dY];omega
   unfold Dx at hU;rw [if_pos he,he] at hU;exact hU
  (conv=>whnf);repeat ((first|refine ae.k0 (QH) ?_|refine ⟨_,_,.there (.here _),aR,?_⟩);conv=>whnf)
  refine bW rfl mixed [3,10,112,113] [] (fun m r h=>∃ (i:Nat) (q sb n1 n2:Nat) (uv:AV) (uh:af),r=[(3,[],.au (bu H)),(10,[],.bj sb 0),(112,[],.int .i64 (H.list.aA.map iX).length),(113,[],.int .i64 i)]/\h=(q,.tok)::(sb,.vec (Dv H B f (qN H.lex f) (.sl 1 (some q) (ints (il (cI H.lex f) 0))) uv (nm H.lex f) (cD H B f).mA n1 n2))::(n2,.map [])::(n1,.map [])::uh/\m=H.list.aA.length - i/\i<=H.list.aA.length/\Out 1 fW ((lY H).take i) uv uh) ?_ ?_
  ·(conv=>whnf);exact ⟨_,_,ao.refl _ _,_,0,q,sb,n1,n2,.aT,[],rfl,rfl,rfl,by omega,.inl ⟨by simp,rfl,rfl⟩⟩
  rintro m r h' ⟨i,q,sb,n1,n2,uv,uh,rfl,rfl,rfl,hi,ho⟩;(conv=>whnf);refine ⟨fun hz=>?_,fun hz=>?_⟩<;>simp at hz
  ·have hu:=zm i hz;have oP:=dj (Yc hz);have PM:=(qA hH.nN).many;have gQ:(((lY H).take i).map fW).length<=200:=by rw [List.length_map,List.length_take];omega
   rcases ho with ⟨hn,rfl,rfl⟩|⟨qu,rfl,rfl⟩
   ·(conv=>whnf);repeat (refine ae.k0 (hu) ?_;conv=>whnf)
    refine cF rfl ?_;(conv=>whnf);repeat ((first|refine ⟨ah ⟨by omega,by omega⟩,?_⟩|(refine ⟨Nat.le_of_ble_eq_true rfl,fun q'=>?_⟩)|(refine ⟨_,_,.there (.there (.here _)),aR,?_⟩)|refine ⟨_,_,.tail _ (.head _),rfl,?_⟩);conv=>whnf)
    exact ⟨_,_,ao.perm (List.perm_middle (l₁:=[_,_,_,_])).symm,_,(by omega),i+1,q,sb,n1,n2,_,[(q',.tok)],rfl,rfl,rfl,by omega,.inr ⟨q',by rw [oP,hn];rfl,rfl⟩⟩
   (conv=>whnf);repeat (refine ae.k0 (hu) ?_;conv=>whnf)
   refine cF rfl ?_;(conv=>whnf);repeat ((first|refine ⟨ah ⟨by omega,by omega⟩,?_⟩|(refine ⟨(by rw [List.length_append,List.length_singleton];unfold aU;omega),fun q'=>⟨_,.there (.there (.there (.there (.here _)))),?_⟩⟩)|(refine ⟨_,_,.tail _ (.head _),rfl,?_⟩)|(refine ⟨_,_,.there (.here _),aR,?_⟩));conv=>whnf)
   exact ⟨_,_,ao.refl _ _,_,(by omega),i+1,q,sb,n1,n2,_,[(q',.tok)],rfl,rfl,rfl,by omega,.inr ⟨q',by rw [oP,List.map_append];rfl,rfl⟩⟩
  have bC:i=H.list.aA.length:=(by omega);subst bC;rw [List.take_of_length_le (by rw [KE];exact Nat.le_refl _)] at ho;(conv=>whnf);skip;refine .inr ⟨by rw [Gm];exact h1,sb,n1,n2,.sl 1 (some q) (ints (il (cI H.lex f) 0)),[(q,.tok)],uv,uh,rfl,.inr ⟨q,rfl,rfl⟩,ho,?_⟩;refine (List.Perm.trans (List.perm_append_comm (l₁:=[(q,Ob.tok)]) (l₂:=(sb,_)::(n2,.map [])::(n1,.map [])::uh)) ?_);refine List.Perm.cons _ ((List.Perm.swap _ _ _).trans (List.Perm.cons _ (List.Perm.cons _ ?_)));exact List.perm_append_comm
 have Yp:aB Tryz.prog 53 [.agg (bu H),.agg (fN B),.agg (eZ f)] []
   (fun v h'=>(iY H B f≠0/\v=.aH [.kA,.int .i64 (iY H B f)]/\h'=[])\/(iY H B f=0/\∃ sb nb cb bv bh uv uh,v=.aH [.bj sb 0,.int .i64 0]/\Out 1 (fun n=>[AV.int .i64 n]) (il (cI H.lex f) 0) bv bh/\Out 1 fW (lY H) uv uh /\
     h'=(sb,.vec (Dv H B f (qN H.lex f) bv uv (nm H.lex f) (cD H B f).mA nb cb))::(nb,ew [])::(cb,vS [])::(bh++uh))):=by
  refine aB.post key ?_;rintro v h1 (⟨h,rfl⟩|⟨h,sb,nb,cb,bv,bh,uv,uh,rfl,sn,cy,hp⟩)
  ·exact ⟨_,_,.inl ⟨h,rfl,rfl⟩,ag.refl _,fun k o hm=>(by cases hm),fun _=>(by simp [keys])⟩
  exact ⟨_,_,.inr ⟨h,sb,nb,cb,bv,bh,uv,uh,rfl,sn,cy,rfl⟩,ag.refl _,fun k o hm=>hp.mem_iff.2 hm,fun hn=>by unfold keys at hn ⊢;exact ((hp.map _).nodup_iff).1 hn⟩
 refine aB.post (R:=fun v h'=>(iY H B f≠0/\v=.aH [.kA,.int .i64 (iY H B f)]/\h'=[])\/(iY H B f=0/\∃ nb cb bv bh uv uh,v=.aH [.au (Dv H B f (qN H.lex f) bv uv (nm H.lex f) (cD H B f).mA nb cb),.int .i64 0]/\Out 1 (fun n=>[AV.int .i64 n]) (il (cI H.lex f) 0) bv bh/\Out 1 fW (lY H) uv uh /\
    h'=(nb,ew [])::(cb,vS [])::(bh++uh))) (aB.GM Yp ?_) ?_
 ·rintro v h1 (⟨h,rfl,rfl⟩|⟨h,sb,nb,cb,bv,bh,uv,uh,rfl,sn,cy,rfl⟩)
  ·exact .inl (.inl ⟨h,rfl,rfl⟩)
  exact .inr ⟨sb,_,_,_,_,.here _,lp.refl _,.aH (.cons (.ptr rfl) (.cons (.refl _) .nil)),.inr ⟨h,nb,cb,bv,bh,uv,uh,rfl,sn,cy,rfl⟩⟩
 rintro v h1 (⟨h,rfl,rfl⟩|⟨h,nb,cb,bv,bh,uv,uh,rfl,sn,cy,rfl⟩)
 ·exact ⟨_,_,.inl ⟨h,rfl,rfl⟩,ag.refl _,fun k o hm=>hm,fun hn=>hn⟩
 refine ⟨_,_,.inr ⟨h,nb,cb,rfl,rfl⟩,ag.aH (.cons (ag.au ?_) (.cons (ag.refl _) .nil)),fun k o hm=>?_,fun hn=>?_⟩
 ·exact GL (cW.refl _) (GL (cW.refl _) (GL (cW.refl _) (.cons (ag.refl _) (.cons (sn.le (by decide)) (.cons (ag.refl _) (.cons (ag.refl _) (.cons (cy.le (by decide)) (.cons (ag.refl _) (.cons (ag.refl _) .nil)))))))))
 ·rcases List.mem_cons.1 hm with h|h
  ·rw [h];exact List.mem_cons_self
  rcases List.mem_cons.1 h with h|h
  ·rw [h];exact List.mem_cons_of_mem _ List.mem_cons_self
  cases h
 unfold keys at hn ⊢;have h2:=(List.nodup_append.1 (show ([nb,cb]++(bh++uh).map (fun p:Nat × Ob=>p.1)).Nodup from hn)).1;exact h2
end Go.Abs.Wall.Spl
namespace Go.Abs.Wall.Spl
open Go Go.Abs Go.Proofs Go.Abs.Wall
open Go.Abs.Wall.Lst hiding aq ic lH jx gE dn lI kH lJ lK lL lM lN eA lO ch lP pC rI bY jW oN mV pD getAll
end Go.Abs.Wall.Spl
