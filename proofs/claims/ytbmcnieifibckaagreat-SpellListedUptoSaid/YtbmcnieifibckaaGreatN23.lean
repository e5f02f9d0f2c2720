/- What is proved: small laws for the walks of this seat, and contracts of its functions. No condition but those each theorem names. -/
import Derived.Test.YtbmcnieifibckaaGreatN22
import Derived.Test.YtbmcnieifibckaaGreatN21
import Derived.Test.YtbmcnieifibckaaGreatN9
import Derived.Test.YtbmcnieifibckaaGreatN8
set_option maxRecDepth 100000
set_option maxHeartbeats 2000000
set_option linter.unusedVariables false
set_option linter.unusedSimpArgs false
namespace Go.Abs.Wall.Spl
open Go Go.Abs Go.Proofs Go.Abs.Wall
open Go.Abs.Wall.Lst hiding al gL lq jg gk da lr kd lu lx ly lz lA ef lB cg lC oY qT bW jE og mD oZ getAll
theorem getAll (E:Env) (hE:gO E):∀ (d:Nat) (x:br),gX E x->(12 - x.n).toNat=d->jE E x/\EV E x:=by
 intro d;induction d with
 | zero=>
   intro x hx hd;have hn:=hx.n;have IH:∀ y,gX E y->y.n=x.n+1->jE E y:=fun y hy gp=>by have:=hy.n;omega
   have hN:=OI E hE x hx IH;exact ⟨oZ E hE x hx hN IH,hN⟩
 | succ d ih=>
   intro x hx hd;have hn:=hx.n;have IH:∀ y,gX E y->y.n=x.n+1->jE E y:=fun y hy gp=>(ih y hy (by omega)).1;have hN:=OI E hE x hx IH;exact ⟨oZ E hE x hx hN IH,hN⟩
theorem dQ.at {E:Env} {n:Int}:∀ {c:Nat} {d:Int} {es:fI} {hp:ab},dQ E c d es hp->d<=n->n<=12->∃ c' hA hB,hp=hA++hB/\dQ E c' n es hB/\∀ ext wy,(∀ p∈ext,n<=p.1.n)->dQ E c' n (es++ext) wy->dQ E c d (es++ext) (hA++wy)
 | _,d,es,_,.done h,h1,h2=>by omega
 | _,d,es,_,.step (hA:=hA) (hB:=hB) nA nB,h1,h2=>by
   by_cases he:d=n
   ·subst he;exact ⟨_,[],_,rfl,.step nA nB,fun ext wy _ h=>h⟩
   obtain ⟨c',Wa,Wb,e,k,f⟩:=dQ.at (n:=n) nB (by omega) h2;refine ⟨c',hA++Wa,Wb,by rw [e,List.append_assoc],k,fun ext wy hx h=>?_⟩;rw [List.append_assoc];exact .step (nA.more fun p hp=>by have:=hx p hp;omega) (f ext wy hx h)
theorem OM {m:Nat × Ob} {A B C D:ab}:(m::D++(A++(B++C))).Perm (A++m::(B++(C++D))):=by refine List.Perm.trans ?_ List.perm_middle.symm;refine List.Perm.cons _ ?_;refine List.Perm.trans List.perm_append_comm ?_;simp
theorem IZ {E:Env} (hE:gO E) {x:br} (hx:gX E x) {nb:Nat} {cv:AV} {es:fI} {c:Nat} {hp:ab} {aO:Nat} (hn:dQ E c 0 es hp) (hr:aO<=64) (A B:ab) :
  ay Tryz.prog 105 [.au (kG E (.omap nb) cv),.agg (km x),.int .i64 aO] (A++(nb,ea es)::(B++hp))
   (fun v H'=>v=bW E x aO/\∃ ext aZ,dQ E c 0 (es++ext) aZ/\(dF x (es++ext)).isSome=true/\H'=A++(nb,ea (es++ext))::(B++aZ)):=by
 obtain ⟨c',hA,hB,rfl,k,f⟩:=hn.at hx.n.1 hx.n.2;refine ay.re ((getAll E hE _ x hx rfl).1 nb cv es c' hB aO k hr) (h2:=A++(B++hA)) OM ?_;rintro v h1 ⟨hv,ext,aZ,he,jj,kI,rfl⟩;exact ⟨_,OM,hv,ext,hA++aZ,f ext aZ he jj,kI,rfl⟩
theorem ON {E:Env} {x:br} {nb k:Nat} {cv:AV} {es:fI} (dz:dF x es=some k) {h:ab} (hm:(nb,ea es)∈h) :
  ae Tryz.prog 106 [.au (kG E (.omap nb) cv),.agg (km x)] h (.bn k 0):=by
 refine aG (F:=Tryz.f106) c106 rfl rfl rfl mixed rfl fun X=>?_;(conv=>whnf);repeat ((first|(refine IV hm ?_)|refine And.intro (by show aJ (aH Tryz.f106 _) _=true;decide +kernel) ?_);conv=>whnf)
 rw [dz];refine cT rfl ?_;(conv=>whnf);skip;exact ⟨rfl,rfl⟩
theorem dQ.node {E:Env} {x:br} {k:Nat} (hx:gX E x) {c:Nat} {es:fI} {hp:ab} (hn:dQ E c 0 es hp) (dz:dF x es=some k):∃ fv ov due,(k,Ob.vec (cg (iC E x) fv ov due))∈hp:=by
 obtain ⟨c',hA,hB,rfl,nn,f⟩:=hn.at hx.n.1 hx.n.2;cases nn with
 | done h=>have:=hx.n;omega
 | step nA nB=>
   obtain ⟨hX,h1,hY,rfl,bZ,_⟩:=nA.pick rfl dz;obtain ⟨t,due,Q,fv,fh,ov,oh,_,_,_,rfl⟩:=bZ;exact ⟨fv,ov,due,by simp⟩
structure Spl where
 aB:List Int
 aj:List ao
 cost:Int
deriving DecidableEq
def kJ (p:Spl):List AV:=[.sl 1 none (ints p.aB),.sl 2 none (p.aj.map aT),.int .i64 p.cost]
def dR:br:=⟨0,0,false,0⟩
def jn (E:Env) (w:Wy):Spl:=⟨(kH E dR w).map (·.sign),(kH E dR w).map (·.use),w.cost / 16⟩
def uZ (E:Env) (aO:Nat):AV:=match (df E dR)[aO]? with
 | none=>.aQ [.agg [.aW,.aW,.int .i64 0],.bool false]
 | some w=>.aQ [.agg (kJ (jn E w)),.bool true]
theorem sy {E:Env}:gX E dR:=⟨⟨by decide,by decide⟩,⟨by decide,by show (0:Int)<=_;omega⟩,⟨by decide,by decide⟩⟩
def c55:aw:=⟨[0,1,4,5,6,7,8,18,26],[],[8],[],[(7,[0,1,2,3,4,5,6,7,8,9,10,11],[8])],[]⟩
theorem Wc (E:Env) (hE:gO E) (tb:Nat) (cv:AV) (es:fI) (c:Nat) (hp:ab) (aO:Nat) (hr:aO<=64) (hN:dQ E c 0 es hp) :
  ay Tryz.prog 55 [.au (kG E (.omap tb) cv),.int .i64 aO] ((tb,ea es)::hp)
   (fun v h'=>v=uZ E aO/\∃ ext aZ,dQ E c 0 (es++ext) aZ/\h'=(tb,ea (es++ext))::aZ):=by
 refine ay.post (R:=fun v h'=>∃ v',v'=uZ E aO/\ag v v'/\∃ ext aZ Z,dQ E c 0 (es++ext) aZ/\h'.Perm ((tb,ea (es++ext))::aZ++Z)) ?_ ?_
 ·refine aG (F:=Tryz.f55) c55 rfl rfl rfl mixed rfl fun X=>?_;(conv=>whnf);repeat ((first|(intro (b7:Nat))|(refine ay.mono ?_ (IZ hE sy hN hr [_,_] []))|refine ⟨_,_,.head _,rfl,?_⟩|refine ⟨_,_,.here _,aF,?_⟩);conv=>whnf)
  rintro v h' ⟨rfl,ext,aZ,zQ,kI,rfl⟩;clear hN;obtain ⟨mO,oz⟩:∃ e,e=es++ext:=⟨_,rfl⟩;rw [<- oz] at zQ kI;rw [<- oz];cases hw:(df E dR)[aO]? with
  | none=>
    have dy:bW E dR aO=.aQ [.agg pq,.bool false]:=by unfold bW;rw [hw]
    rw [dy];(conv=>whnf);repeat ((first|(intro (b7:Nat))|refine ⟨_,_,.here _,aF,?_⟩);conv=>whnf)
    refine cT rfl ?_;(conv=>whnf);repeat ((refine ⟨_,_,.there (.there (.here _)),aF,?_⟩);conv=>whnf)
    refine ⟨_,_,.tail _ (.tail _ (.head _)),rfl,?_⟩;refine ⟨_,rfl,?_,ext,aZ,[_,_,_],by rw [<- oz];exact zQ,by rw [<- oz];exact List.perm_append_comm (l₁:=[_,_,_])⟩;unfold uZ;rw [hw];exact ag.refl _
  | some w0=>
    have dy:bW E dR aO=.aQ [.agg (al w0),.bool true]:=by unfold bW;rw [hw]
    rw [dy];(conv=>whnf);repeat ((first|(intro (b7:Nat))|refine ⟨_,_,.here _,aF,?_⟩);conv=>whnf)
    refine cF rfl ?_;(conv=>whnf);repeat ((first|(refine ⟨_,_,.there (.there (.here _)),aF,?_⟩)|refine ⟨_,_,.head _,rfl,?_⟩);conv=>whnf)
    refine cy rfl mixed [0,4,6,7] [] (fun m r h=>∃ (x:br) (ρ:Nat) (w:Wy) (L:List Mv) (sv uv:AV) (sh uh hp:ab) (ext:fI) (wb xb ob:Nat),r=[(0,[],.au (kG E (.omap tb) cv)),(4,[],.bn ob 0),(6,[],.bn xb 0),(7,[],.bn wb 0)]/\h=(wb,.vec (al w))::(xb,.vec (km x))::(ob,.vec [sv,uv,.int .i64 (w0.cost / 16)])::(tb,ea (mO++ext))::(sh++(uh++hp))/\m=(13 - x.n).toNat/\gX E x/\(df E x)[ρ]?=some w/\kH E dR w0=L++kH E x w/\(L.length:Int)=x.n/\ρ<=64/\dQ E c 0 (mO++ext) hp/\(dF x (mO++ext)).isSome=true/\((L=[]/\sv=.aW/\uv=.aW/\sh=[]/\uh=[])\/∃ q1 q2,sv=.sl 1 (some q1) (ints (L.map (·.sign)))/\uv=.sl 2 (some q2) (L.map fun m=>aT m.use)/\sh=[(q1,.tok)]/\uh=[(q2,.tok)])) ?_ ?_
    ·(conv=>whnf);exact ⟨_,_,ar.refl _ _,_,dR,aO,w0,[],.aW,.aW,[],[],aZ,[],_,_,_,rfl,by rw [List.append_nil];rfl,rfl,sy,hw,rfl,rfl,hr,by rw [List.append_nil];exact zQ,by rw [List.append_nil];exact kI,.inl ⟨rfl,rfl,rfl,rfl,rfl⟩⟩
    clear zQ;rintro m r h' ⟨x,ρ,w,L,sv,uv,sh,uh,hp,gQ,wb,xb,ob,rfl,rfl,rfl,hx,pb,hL,tg,hρ,hN,kI,ho⟩;have hn:=hx.n;(conv=>whnf);repeat (refine ⟨_,_,.head _,rfl,?_⟩;conv=>whnf)
    refine ⟨fun hz=>?_,fun hz=>?_⟩<;>simp at hz
    ·obtain ⟨m,w',hm,bS,nu,gU,hc,um⟩:=pe hE hx pb (by omega);have bZ:=bS.next;have kE:(ints (L.map (·.sign))).length=L.length:=(by simp [ints]);have hD:(L.map fun m=>aT m.use).length=L.length:=(by simp);have BG:bW E m.to w.aO=.aQ [.agg (al w'),.bool true]:=by unfold bW;rw [nu]
     obtain ⟨k,dz⟩:=Option.isSome_iff_exists.1 kI;obtain ⟨fv,ov,due,hk⟩:=hN.node hx dz;rcases ho with ⟨OO,rfl,rfl,rfl,rfl⟩|⟨q1,q2,rfl,rfl,rfl,rfl⟩
     ·have Ch:=ON (E:=E) (cv:=cv) dz (h:=(wb,Ob.vec (al w))::(xb,.vec (km x))::(ob,.vec [.aW,.aW,.int .i64 (w0.cost / 16)])::(tb,ea (mO++gQ))::([]++([]++hp))) (.tail _ (.tail _ (.tail _ (.head _))));(conv=>whnf);repeat ((first|(refine ⟨.bn k 0,af Ch,?_⟩)|(refine ⟨_,_,.tail _ (.tail _ (.tail _ (.tail _ hk))),rfl,?_⟩)|(refine cj (enc:=uT) (w.aP - 1) (by omega) hm ?_)|(refine ⟨_,_,.tail _ (.tail _ (.head _)),rfl,?_⟩)|(refine ⟨_,_,.tail _ (.tail _ (.tail _ (.head _))),rfl,?_⟩)|(refine ⟨Nat.le_of_ble_eq_true rfl,fun q=>?_⟩)|(refine ⟨_,_,.there (.there (.there (.here _))),aF,?_⟩)|(refine ⟨_,_,.there (.there (.there (.there (.here _)))),aF,?_⟩)|refine ⟨_,_,aK.here _,?_⟩|refine ⟨_,_,.head _,rfl,?_⟩|refine ⟨_,_,.tail _ (.head _),rfl,?_⟩|refine ⟨_,_,.here _,aF,?_⟩|refine And.intro (by show aJ (aH Tryz.f55 _) _=true;decide +kernel) ?_|intro (nb:Nat));conv=>whnf)
      rename_i q1;refine ay.mono ?_ (IZ hE bS.to hN (aO:=w.aO) (by omega) [(q,.tok),(q1,.tok),(wb,.vec (al w)),(xb,.vec (km m.to)),(ob,.vec [.sl 1 (some q1) [[.int .i64 m.sign]],.sl 2 (some q) [aT m.use],.int .i64 (w0.cost / 16)])] []);clear hN kI Ch hk;rintro v h' ⟨rfl,yo,yp,Ci,Cj,rfl⟩;have sz:=List.append_assoc mO gQ yo;rw [sz] at Ci Cj;rw [BG,sz];(conv=>whnf);repeat ((refine ⟨_,_,.there (.there (.here _)),aF,?_⟩);conv=>whnf)
      refine ⟨_,_,ar.perm (List.Perm.append_right yp ((List.Perm.swap _ _ _).trans (List.perm_append_comm (l₁:=[(q1,Ob.tok),(q,.tok)]) (l₂:=[_,_,_,_])))),_,(by omega),m.to,w.aO,w',L++[m],.sl 1 (some q1) [[.int .i64 m.sign]],.sl 2 (some q) [aT m.use],[(q1,.tok)],[(q,.tok)],yp,gQ++yo,wb,xb,ob,rfl,rfl,rfl,bS.to,nu,by rw [hL,gU,List.append_assoc];rfl,by rw [List.length_append];simp;omega,by omega,Ci,Cj,.inr ⟨q1,q,by rw [OO];rfl,by rw [OO];rfl,rfl,rfl⟩⟩
     have Ch:=ON (E:=E) (cv:=cv) dz (h:=(wb,Ob.vec (al w))::(xb,.vec (km x))::(ob,.vec [.sl 1 (some q1) (ints (L.map (·.sign))),.sl 2 (some q2) (L.map fun m=>aT m.use),.int .i64 (w0.cost / 16)])::(tb,ea (mO++gQ))::([(q1,.tok)]++([(q2,.tok)]++hp))) (.tail _ (.tail _ (.tail _ (.head _))));have bo:(k,Ob.vec (cg (iC E x) fv ov due))∈[(q1,Ob.tok)]++([(q2,.tok)]++hp):=.tail _ (.tail _ hk);(conv=>whnf);repeat ((first|(refine ⟨.bn k 0,af Ch,?_⟩)|(refine ⟨_,_,.tail _ (.tail _ (.tail _ (.tail _ bo))),rfl,?_⟩)|(refine cj (enc:=uT) (w.aP - 1) (by omega) hm ?_)|(refine ⟨_,_,.tail _ (.tail _ (.head _)),rfl,?_⟩)|(refine ⟨(by rw [List.length_append,kE];simp;unfold aV;omega),fun q=>⟨_,.there (.there (.there (.there (.here _)))),?_⟩⟩)|(refine ⟨(by rw [List.length_append,hD];simp;unfold aV;omega),fun q=>⟨_,.there (.there (.there (.there (.there (.here _))))),?_⟩⟩)|(refine ⟨_,_,.there (.there (.here _)),aF,?_⟩)|(refine ⟨_,_,.there (.here _),aF,?_⟩)|refine ⟨_,_,aK.here _,?_⟩|refine ⟨_,_,.head _,rfl,?_⟩|refine ⟨_,_,.tail _ (.head _),rfl,?_⟩|refine ⟨_,_,.here _,aF,?_⟩|refine And.intro (by show aJ (aH Tryz.f55 _) _=true;decide +kernel) ?_|intro (nb:Nat));conv=>whnf)
     rename_i qa;refine ay.mono ?_ (IZ hE bS.to hN (aO:=w.aO) (by omega) [(wb,.vec (al w)),(xb,.vec (km m.to)),(ob,.vec [.sl 1 (some qa) (ints (L.map (·.sign))++[[.int .i64 m.sign]]),.sl 2 (some q) (L.map (fun m=>aT m.use)++[aT m.use]),.int .i64 (w0.cost / 16)])] [(qa,.tok),(q,.tok)]);clear hN kI Ch hk bo;rintro v h' ⟨rfl,yo,yp,Ci,Cj,rfl⟩;have sz:=List.append_assoc mO gQ yo;rw [sz] at Ci Cj;rw [BG,sz];(conv=>whnf);repeat ((refine ⟨_,_,.here _,aF,?_⟩);conv=>whnf)
     refine ⟨_,_,ar.refl _ _,_,(by omega),m.to,w.aO,w',L++[m],.sl 1 (some qa) (ints (L.map (·.sign))++[[.int .i64 m.sign]]),.sl 2 (some q) (L.map (fun m=>aT m.use)++[aT m.use]),[(qa,.tok)],[(q,.tok)],yp,gQ++yo,wb,xb,ob,rfl,rfl,rfl,bS.to,nu,by rw [hL,gU,List.append_assoc];rfl,by rw [List.length_append];simp;omega,by omega,Ci,Cj,.inr ⟨qa,q,by unfold ints;rw [List.map_append,List.map_append];rfl,by rw [List.map_append];rfl,rfl,rfl⟩⟩
    have jG:w.aP=0:=(by omega);obtain ⟨gq,_,_⟩:=Cg hE hx pb jG;(conv=>whnf);repeat ((first|(refine ⟨_,_,.tail _ (.tail _ (.head _)),rfl,?_⟩)|(refine ⟨_,_,.there (.there (.here _)),aF,?_⟩));conv=>whnf)
    refine ⟨_,rfl,?_,ext++gQ,hp,((wb,.vec (al w))::(xb,.vec (km x))::(ob,.vec [sv,uv,.int .i64 (w0.cost / 16)])::(sh++uh)),by rw [<- List.append_assoc,<- oz];exact hN,?_⟩
    ·unfold uZ;rw [hw];have my:kH E dR w0=L:=(by rw [hL,gq,List.append_nil]);show ag _ (.aQ [.agg (kJ (jn E w0)),.bool true]);unfold jn kJ;rw [my];refine ag.aQ (.cons (ag.agg ?_) (.cons (ag.refl _) .nil));rcases ho with ⟨rfl,rfl,rfl,rfl,rfl⟩|⟨q1,q2,rfl,rfl,rfl,rfl⟩
     ·exact .cons (ag.nil (by decide)) (.cons (ag.nil (by decide)) (.cons (ag.refl _) .nil))
     refine .cons ag.sl (.cons ?_ (.cons (ag.refl _) .nil));rw [List.map_map];exact ag.sl
    have ra:es++(ext++gQ)=mO++gQ:=(by rw [<- List.append_assoc,<- oz]);rw [ra];refine List.Perm.trans ?_ (List.perm_append_comm (l₁:=(wb,.vec (al w))::(xb,.vec (km x))::(ob,.vec [sv,uv,.int .i64 (w0.cost / 16)])::(sh++uh)) (l₂:=(tb,ea (mO++gQ))::hp));simp only [List.cons_append,List.append_assoc];exact List.Perm.cons _ (List.Perm.cons _ (List.Perm.cons _ (by rw [<- List.append_assoc,<- List.append_assoc];exact List.perm_middle.symm)))
 rintro v h1 ⟨v',rfl,hv,ext,aZ,Z,jj,eH⟩;refine ⟨_,_,⟨rfl,ext,aZ,jj,rfl⟩,hv,fun k o hm=>eH.mem_iff.2 (List.mem_append_left _ hm),fun hn=>?_⟩;have:=((eH.map (fun p:Nat × Ob=>p.1)).nodup_iff).1 hn;unfold keys;rw [List.map_append] at this;exact (List.nodup_append.1 this).1
end Go.Abs.Wall.Spl
namespace Go.Abs.Wall.Spl
open Go Go.Abs Go.Proofs Go.Abs.Wall
def zR (n:Int):Bool:=!bG n (-1) 1000
def nG (H:ax) (B:bX):Bool:=((decide ((B.aB.length:Int)=H.list.aB.length)&&bG B.dM 0 2)&&bG B.cls 0 2)&&!B.aB.any zR
def oA (H:ax) (B:bX):Int:=if eG H≠0 then eG H else if nG H B=true then 0 else 60
structure wB (B:bX):Prop where
 aB:B.aB.length<=1048576
def c179:aw:=⟨[0,1,4,5,7,8,9,16],[],[],[],[],[]⟩
def c124:aw:=⟨[0,1,4],[],[],[],[],[]⟩
def c213:aw:=⟨[0,1,4,5,7,8,9,16],[],[],[],[],[]⟩
def c143:aw:=⟨[0,1,4],[],[],[],[],[]⟩
def c54:aw:=⟨[0,1,2,6],[],[],[],[],[]⟩
def c125:aw:=⟨[0,2],[],[],[],[],[]⟩
def c66:aw:=⟨[0,1,2,3,4],[],[],[],[],[]⟩
def c34:aw:=⟨[0,1,2,3,4,5,9,14],[],[],[],[],[]⟩
theorem OP (l:List Int) (hl:l.length<=aq) (f:FuncId) (bB:List AV) (p:Int->Bool) (hp:∀ w∈l,ae Tryz.prog f (.int .i64 w::bB) [] (.bool (p w))) :
  ae Tryz.prog 124 [.sl 1 none (ints l),.fn f bB] [] (.bool (l.any p)):=by
 have hi:ae Tryz.prog 179 [.sl 1 none (ints l),.fn f bB] [] (.int .i64 (jK p l)):=by
  refine aG (F:=Tryz.f179) c179 rfl rfl rfl mixed rfl fun X=>?_;(conv=>whnf);unfold aq at hl;refine bM rfl mixed [0,1,7,8] [] (fun m r h=>∃ (i:Nat),r=[(0,[],.sl 1 none (ints l)),(1,[],.fn f bB),(7,[],.int .i64 (ints l).length),(8,[],.int .i64 i)]/\h=[]/\m=l.length - i/\i<=l.length/\Below p l i) ?_ ?_
  ·(conv=>whnf);exact ⟨_,0,rfl,rfl,rfl,by omega,.zero⟩
  rintro m r h ⟨i,rfl,rfl,rfl,hi,hg⟩;(conv=>whnf);refine ⟨fun hc=>?_,fun hc=>?_⟩<;>simp [dB] at hc
  ·obtain ⟨x,hx⟩:=aN hc;(conv=>whnf);repeat ((first|refine ix (by assumption) ?_|(refine ae.k0 (hp x (List.mem_of_getElem? hx)) ?_));conv=>whnf)
   refine ⟨fun hd=>?_,fun hd=>?_⟩
   ·(conv=>whnf);exact ⟨by rw [hg.at hx hd],rfl⟩
   (conv=>whnf);repeat (refine ⟨af ⟨by omega,by omega⟩,?_⟩;conv=>whnf)
   exact ⟨_,by omega,i+1,rfl,rfl,rfl,by omega,hg.succ hx hd⟩
  (conv=>whnf);exact ⟨by rw [hg.end hc],rfl⟩
 refine aG (F:=Tryz.f124) c124 rfl rfl rfl mixed rfl fun X=>?_;(conv=>whnf);refine ae.k0 hi ?_;(conv=>whnf);exact ⟨congrArg AV.bool (vc p l),rfl⟩
theorem Wd (l:List ao) (hl:l.length<=aq) (f:FuncId) (bB:List AV) (p:ao->Bool) (hp:∀ w∈l,ae Tryz.prog f (.agg (aT w)::bB) [] (.bool (p w))) :
  ae Tryz.prog 143 [.sl 2 none (l.map aT),.fn f bB] [] (.bool (l.any p)):=by
 have hi:ae Tryz.prog 213 [.sl 2 none (l.map aT),.fn f bB] [] (.int .i64 (jK p l)):=by
  refine aG (F:=Tryz.f213) c213 rfl rfl rfl mixed rfl fun X=>?_;(conv=>whnf);unfold aq at hl;refine bM rfl mixed [0,1,7,8] [] (fun m r h=>∃ (i:Nat),r=[(0,[],.sl 2 none (l.map aT)),(1,[],.fn f bB),(7,[],.int .i64 (l.map aT).length),(8,[],.int .i64 i)]/\h=[]/\m=l.length - i/\i<=l.length/\Below p l i) ?_ ?_
  ·(conv=>whnf);exact ⟨_,0,rfl,rfl,rfl,by omega,.zero⟩
  rintro m r h ⟨i,rfl,rfl,rfl,hi,hg⟩;(conv=>whnf);refine ⟨fun hc=>?_,fun hc=>?_⟩<;>simp at hc
  ·obtain ⟨x,hx⟩:=aN hc;(conv=>whnf);repeat ((first|refine ix (by assumption) ?_|(refine ae.k0 (hp x (List.mem_of_getElem? hx)) ?_));conv=>whnf)
   refine ⟨fun hd=>?_,fun hd=>?_⟩
   ·(conv=>whnf);exact ⟨by rw [hg.at hx hd],rfl⟩
   (conv=>whnf);repeat (refine ⟨af ⟨by omega,by omega⟩,?_⟩;conv=>whnf)
   exact ⟨_,by omega,i+1,rfl,rfl,rfl,by omega,hg.succ hx hd⟩
  (conv=>whnf);exact ⟨by rw [hg.end hc],rfl⟩
 refine aG (F:=Tryz.f143) c143 rfl rfl rfl mixed rfl fun X=>?_;(conv=>whnf);refine ae.k0 hi ?_;(conv=>whnf);exact ⟨congrArg AV.bool (vc p l),rfl⟩
theorem Ja (n lo hi:Int):ae Tryz.prog 54 [.int .i64 n,.int .i64 lo,.int .i64 hi] [] (.bool (bG n lo hi)):=by refine aG (F:=Tryz.f54) c54 rfl rfl rfl mixed rfl fun X=>?_;(conv=>whnf);skip;exact ⟨rfl,rfl⟩
theorem We (n:Int):ae Tryz.prog 125 [.int .i64 n] [] (.bool (zR n)):=by
 refine aG (F:=Tryz.f125) c125 rfl rfl rfl mixed rfl fun X=>?_;(conv=>whnf);repeat (refine ae.k0 (Ja _ _ _) ?_;conv=>whnf)
 exact ⟨rfl,rfl⟩
theorem Wf (H:ax) (B:bX) (hB:wB B):ae Tryz.prog 66 [.agg (bJ H),.agg (mj B)] [] (.bool (nG H B)):=by
 have hb:=hB.aB;have EM:=OP B.aB (by unfold aq;omega) 125 [] zR fun n _=>We n;have he:nG H B=(((decide (((ints B.aB).length:Int)=((H.list.aB.map jo).length:Int))&&bG B.dM 0 2)&&bG B.cls 0 2)&&!B.aB.any zR):=by unfold nG;rw [dB,List.length_map]
 rw [he];refine aG (F:=Tryz.f66) c66 rfl rfl rfl mixed rfl fun X=>?_;(conv=>whnf);repeat ((first|refine aX (Ja _ _ _) ?_|refine aX (EM) ?_);conv=>whnf)
 exact ⟨rfl,rfl⟩
theorem OQ (H:ax) (B:bX) (hf:eP H) (hB:wB B):ae Tryz.prog 34 [.agg (bJ H),.agg (mj B)] [] (.int .i64 (oA H B)):=by
 refine aG (F:=Tryz.f34) c34 rfl rfl rfl mixed rfl fun X=>?_;(conv=>whnf);repeat (refine ae.k0 (Jb H hf) ?_;conv=>whnf)
 refine ⟨fun h0=>?_,fun h0=>?_⟩<;>simp at h0
 ·rw [oA,if_pos h0];(conv=>whnf);exact ⟨rfl,rfl⟩
 rw [oA,if_neg (by omega)];(conv=>whnf);repeat (refine ae.k0 (Wf H B hB) ?_;conv=>whnf)
 refine ⟨fun h1=>?_,fun h1=>?_⟩
 ·have h1:(!nG H B)=true:=h1;rw [Bool.not_eq_true'] at h1;rw [if_neg (by rw [h1];decide)];(conv=>whnf);exact ⟨rfl,rfl⟩
 have h1:(!nG H B)=false:=h1;rw [Bool.not_eq_false'] at h1;rw [if_pos h1];(conv=>whnf);exact ⟨rfl,rfl⟩
theorem Ck {H:ax} {B:bX} (h:oA H B=0):eG H=0/\nG H B=true:=by
 unfold oA at h;split at h
 ·rename_i h1;exact absurd h h1
 rename_i h1;split at h
 ·rename_i h2;exact ⟨by omega,h2⟩
 cases h
end Go.Abs.Wall.Spl
namespace Go.Abs.Wall.Spl
open Go Go.Abs Go.Proofs Go.Abs.Wall
open Go.Abs.Wall.Lst hiding al gL lq jg gk da lr kd lu lx ly lz lA ef lB cg lC
structure RS where
 part:Int
 done:Int
 last:Int
 cls:Bool
deriving DecidableEq
def partAt (P:List (List UInt8)) (p:Int):List UInt8:=P.getD p.toNat []
def kK (P:List (List UInt8)) (s:RS):Bool:=decide (s.done=(partAt P s.part).length)
def mP (E:Env) (s:RS):Bool:=decide (E.B.dM=2)&&decide (0<s.last)
def vd (P:List (List UInt8)) (s:RS):List UInt8:=(P.take s.part.toNat).flatten++(partAt P s.part).take s.done.toNat
def rf (E:Env) (P:List (List UInt8)) (s:RS) (u:ao) (first:Bool):RS × Bool:=
 if (mP E s&&!decide (u.kind=3))=true then (s,false)
 else if u.kind=1 then
  if kK P s=false then (⟨s.part,s.done+u.text.length,dE u,s.cls⟩,fG ((partAt P s.part).drop s.done.toNat) u.text)
  else (⟨s.part+1,u.text.length,dE u,s.cls⟩,decide (s.part+1<P.length)&&fG (partAt P (s.part+1)) u.text)
 else if u.kind=2 then (⟨s.part,u.text.length,dE u,s.cls⟩,first&&decide (u.text=E.dv.root))
 else if u.kind=3 then (⟨s.part,s.done,0,s.cls⟩,(!decide (E.B.dM=0)&&decide ((u.text.length:Int)<=s.last))&&qg (vd P s) u.text)
 else if u.kind=4 then (⟨s.part,s.done,0,true⟩,((((!decide (E.B.cls=0))&&kK P s)&&decide (s.part=0))&&!s.cls)&&(!decide (E.dv.cls=[])&&decide (u.text=E.dv.cls)))
 else (⟨s.part,s.done,0,s.cls⟩,false)
def Cm (E:Env) (P:List (List UInt8)) (s:RS):Bool:=
 ((decide (s.part=(P.length:Int) - 1)&&kK P s)&&!((decide (E.B.cls=2)&&!decide (E.dv.cls=[]))&&!s.cls))&&!mP E s
def gR:List (List UInt8)->Int->List Int
 | [],_=>[]
 | t::r,a=>(a+t.length)::gR r (a+t.length)
def cB (P:List (List UInt8)) (p:Int):Int:=((P.take p.toNat).flatten.length:Int)
def toS (P:List (List UInt8)) (n:Int) (s:RS):br:=⟨n,cB P s.part+s.done,s.cls,s.last⟩
structure Can (P:List (List UInt8)) (s:RS):Prop where
 part:0<=s.part/\s.part<P.length
 done:0<=s.done/\s.done<=(partAt P s.part).length
 pos:0<s.part->0<s.done
structure sA (E:Env) (P:List (List UInt8)):Prop where
 snd:E.snd=P.flatten
 dU:E.dU=gR P 0
 ne:P≠[]
 pos:∀ (i:Nat) t,P[i+1]?=some t->0<t.length
 root:E.dv.root.length<=(partAt P 0).length
 text:∀ us∈E.aj,∀ u∈us,0<u.text.length
 mi:E.mi=if E.dv.cls=[] then 0 else E.H.cq.nH
theorem Cn {P:List (List UInt8)} {p:Int} (h0:0<=p) (h:p<P.length):cB P (p+1)=cB P p+(partAt P p).length:=by obtain ⟨n,rfl⟩:=Int.eq_ofNat_of_zero_le h0;have hn:n<P.length:=(by omega);unfold cB partAt;rw [show ((n:Int)+1).toNat=n+1 by omega,Int.toNat_natCast];obtain ⟨t,ht⟩:=aN hn;rw [List.getD_eq_getElem?_getD,ht,dg ht,List.flatten_append,List.length_append];simp
theorem Jc {P:List (List UInt8)} {p q:Int} (h0:0<=p) (h:p<=q):cB P p<=cB P q:=by
 obtain ⟨n,rfl⟩:=Int.eq_ofNat_of_zero_le h0;obtain ⟨d,hd⟩:=Int.eq_ofNat_of_zero_le (a:=q - n) (by omega);obtain rfl:q=n+d:=by omega
 unfold cB;rw [show ((n:Int)+d).toNat=n+d by omega,Int.toNat_natCast,List.take_add,List.flatten_append,List.length_append];omega
theorem EX (P:List (List UInt8)):cB P 0=0:=rfl
theorem OR (P:List (List UInt8)):cB P P.length=(P.flatten.length:Int):=by unfold cB;rw [Int.toNat_natCast,List.take_length]
theorem OS:∀ (P:List (List UInt8)) (a x:Int) (n:Nat),n<P.length->a+cB P n<=x->x<a+cB P (n+1)->iR (gR P a) x=a+cB P (n+1)
 | [],a,x,n,h,_,_=>by simp at h
 | t::r,a,x,0,h,h1,h2=>by
   have ho:cB (t::r) ((0:Nat)+1)=t.length:=by unfold cB;simp
   rw [ho] at h2 ⊢;rw [gR,iR,if_pos h2]
 | t::r,a,x,n+1,h,h1,h2=>by
   have ho:∀ m:Nat,cB (t::r) (m+1)=t.length+cB r m:=by intro m;unfold cB;rw [show ((m:Int)+1).toNat=m+1 by omega];simp
   have h3:=ho n;have h4:=ho (n+1);have h5:=ho (n+1);simp only [List.length_cons] at h;push_cast at h1 h2 h4 ⊢;rw [h3] at h1;rw [h4] at h2 ⊢;have hz:0<=cB r n:=by unfold cB;omega
   rw [gR,iR,if_neg (by omega),OS r (a+t.length) x n (by omega) (by omega) (by omega)];omega
theorem OT:∀ (P:List (List UInt8)) (a x:Int),a+P.flatten.length<=x->iR (gR P a) x=x
 | [],a,x,_=>rfl
 | t::r,a,x,h=>by rw [List.flatten_cons,List.length_append] at h;rw [gR,iR,if_neg (by omega),OT r (a+t.length) x (by push_cast at h;omega)]
theorem Co {t w:List UInt8}:fG t w=true↔w <+: t:=by
 unfold fG;rw [Bool.and_eq_true,decide_eq_true_eq,decide_eq_true_eq];constructor
 ·rintro ⟨_,h⟩;exact List.prefix_iff_eq_take.2 h.symm
 intro h;exact ⟨by have:=h.length_le;omega,(List.prefix_iff_eq_take.1 h).symm⟩
theorem OU {A B w:List UInt8}:(decide (w.length<=A.length)&&fG (A++B) w)=fG A w:=by
 rw [Bool.eq_iff_iff,Bool.and_eq_true,decide_eq_true_eq,Co,Co];constructor
 ·rintro ⟨h1,h2⟩;exact List.prefix_of_prefix_length_le h2 (List.prefix_append A B) h1
 intro h;exact ⟨h.length_le,h.trans (List.prefix_append A B)⟩
theorem Jd {P:List (List UInt8)} {n:Nat} {t:List UInt8} (h:P[n]?=some t):P.flatten=(P.take n).flatten++(t++(P.drop (n+1)).flatten):=by
 conv=>lhs;rw [<- List.take_append_drop n P,drop_cons h]
 rw [List.flatten_append,List.flatten_cons]
theorem Wg {P:List (List UInt8)} {s:RS} (hc:Can P s):P.flatten.drop (cB P s.part+s.done).toNat=(partAt P s.part).drop s.done.toNat++(P.drop (s.part.toNat+1)).flatten:=by
 have h1:=hc.part;have h2:=hc.done;obtain ⟨t,ht⟩:=aN (l:=P) (i:=s.part.toNat) (by omega);have hp:partAt P s.part=t:=by unfold partAt;rw [List.getD_eq_getElem?_getD,ht];rfl
 rw [hp] at h2 ⊢;rw [Jd ht];have hl:(cB P s.part+s.done).toNat=((P.take s.part.toNat).flatten).length+s.done.toNat:=by unfold cB;omega
 rw [hl,List.drop_append,List.drop_eq_nil_of_le (by omega),List.nil_append];rw [show (P.take s.part.toNat).flatten.length+s.done.toNat - (P.take s.part.toNat).flatten.length=s.done.toNat by omega,List.drop_append_of_le_length (by omega)]
theorem Wh {P:List (List UInt8)} {s:RS} (hc:Can P s):P.flatten.take (cB P s.part+s.done).toNat=vd P s:=by
 have h1:=hc.part;have h2:=hc.done;obtain ⟨t,ht⟩:=aN (l:=P) (i:=s.part.toNat) (by omega);have hp:partAt P s.part=t:=by unfold partAt;rw [List.getD_eq_getElem?_getD,ht];rfl
 unfold vd;rw [hp] at h2 ⊢;rw [Jd ht];have hl:(cB P s.part+s.done).toNat=((P.take s.part.toNat).flatten).length+s.done.toNat:=by unfold cB;omega
 rw [hl,List.take_append,List.take_of_length_le (by omega)];rw [show (P.take s.part.toNat).flatten.length+s.done.toNat - (P.take s.part.toNat).flatten.length=s.done.toNat by omega,List.take_append_of_le_length (by omega)]
theorem sA.len {E:Env} {P:List (List UInt8)} (h:sA E P):0<P.length:=List.length_pos_iff.2 h.ne
theorem sA.OV {E:Env} {P:List (List UInt8)} (h:sA E P) {p:Int} (h0:0<p) (h1:p<P.length):0<(partAt P p).length:=by obtain ⟨i,hi⟩:=Int.eq_ofNat_of_zero_le (a:=p - 1) (by omega);obtain ⟨t,ht⟩:=aN (l:=P) (i:=i+1) (by omega);have:=h.pos i t ht;unfold partAt;rw [show p.toNat=i+1 by omega,List.getD_eq_getElem?_getD,ht];exact this
theorem sA.head {E:Env} {P:List (List UInt8)} (h:sA E P):E.dU.headD 0=(partAt P 0).length:=by
 rw [h.dU];have:=h.ne;cases P with
 | nil=>exact absurd rfl this
 | cons t r=>
   show (0:Int)+t.length=t.length;omega
theorem sA.OW {E:Env} {P:List (List UInt8)} (h:sA E P) {p x:Int} (h0:0<=p) (h1:p<P.length) (h2:cB P p<=x) (h3:x<cB P (p+1)):iR E.dU x=cB P (p+1):=by obtain ⟨n,rfl⟩:=Int.eq_ofNat_of_zero_le h0;rw [h.dU,OS P 0 x n (by omega) (by omega) (by omega)];omega
theorem OX {E:Env} {P:List (List UInt8)} (hP:sA E P) {n:Int} {s:RS} (hc:Can P s) (hn:n=0->s.part=0) {u:ao} (hu:0<u.text.length) :
  (rf E P s u (decide (n=0))).2=(aU E (toS P n s) u).2/\((aU E (toS P n s) u).2=true->toS P (n+1) (rf E P s u (decide (n=0))).1=(aU E (toS P n s) u).1/\Can P (rf E P s u (decide (n=0))).1):=by
 have h1:=hc.part;have h2:=hc.done;have EY:=Cn h1.1 h1.2;unfold rf aU;have hm:(mP E s&&!decide (u.kind=3))=((decide (E.B.dM=2)&&decide (0<(toS P n s).hv))&&!decide (u.kind=3)):=rfl;rw [<- hm];by_cases h0:(mP E s&&!decide (u.kind=3))=true
 ·rw [if_pos h0,if_pos h0];exact ⟨rfl,fun h=>by cases h⟩
 rw [if_neg h0,if_neg h0];by_cases k1:u.kind=1
 ·rw [if_pos k1,if_pos k1];by_cases hw:kK P s=false
  ·rw [if_pos hw];have aL:s.done<(partAt P s.part).length:=by unfold kK at hw;have:=of_decide_eq_false hw;omega
   have he:iR E.dU (toS P n s).at_=cB P (s.part+1):=hP.OW h1.1 h1.2 (by show cB P s.part<=cB P s.part+s.done;omega) (by show cB P s.part+s.done<_;omega);have hb:fG ((partAt P s.part).drop s.done.toNat) u.text=tQ E.snd u.text (toS P n s).at_ (iR E.dU (toS P n s).at_):=by rw [he];unfold tQ;rw [hP.snd];show _=(decide (cB P s.part+s.done+u.text.length<=_)&&fG (P.flatten.drop (cB P s.part+s.done).toNat) u.text);rw [Wg hc,EY,<- OU (A:=(partAt P s.part).drop s.done.toNat) (B:=(P.drop (s.part.toNat+1)).flatten)];congr 1;rw [List.length_drop];exact decide_eq_decide.2 (by omega)
   refine ⟨hb,fun ht=>⟨?_,?_⟩⟩
   ·show (⟨n+1,cB P s.part+(s.done+u.text.length),s.cls,dE u⟩:br)=⟨n+1,cB P s.part+s.done+u.text.length,s.cls,dE u⟩;rw [Int.add_assoc]
   have ht:=hb.trans ht;have:=(Co.1 ht).length_le;rw [List.length_drop] at this;exact ⟨h1,⟨by show 0<=s.done+(u.text.length:Int);omega,by show s.done+(u.text.length:Int)<=((partAt P s.part).length:Int);omega⟩,fun _=>by show 0<s.done+(u.text.length:Int);omega⟩
  rw [if_neg hw];have P4:s.done=(partAt P s.part).length:=by unfold kK at hw;exact of_decide_eq_true (by simpa using hw)
  have cR:(toS P n s).at_=cB P (s.part+1):=by show cB P s.part+s.done=_;omega
  by_cases hl:s.part+1<P.length
  ·have qc:=Cn (P:=P) (p:=s.part+1) (by omega) hl;have P5:=hP.OV (p:=s.part+1) (by omega) hl;have he:iR E.dU (toS P n s).at_=cB P (s.part+1+1):=hP.OW (by omega) hl (by rw [cR];exact Int.le_refl _) (by rw [cR];omega);have cJ:Can P ⟨s.part+1,0,0,false⟩->False->True:=fun _ _=>trivial
   have hd:P.flatten.drop (cB P (s.part+1)).toNat=partAt P (s.part+1)++(P.drop ((s.part+1).toNat+1)).flatten:=by
    obtain ⟨t,ht⟩:=aN (l:=P) (i:=(s.part+1).toNat) (by omega);have hp:partAt P (s.part+1)=t:=by unfold partAt;rw [List.getD_eq_getElem?_getD,ht];rfl
    rw [hp,Jd ht];unfold cB;rw [Int.toNat_natCast,List.drop_left]
   have hb:(decide (s.part+1<P.length)&&fG (partAt P (s.part+1)) u.text)=tQ E.snd u.text (toS P n s).at_ (iR E.dU (toS P n s).at_):=by rw [he,cR,decide_eq_true hl,Bool.true_and];unfold tQ;rw [hP.snd,hd,qc,<- OU (A:=partAt P (s.part+1)) (B:=(P.drop ((s.part+1).toNat+1)).flatten)];congr 1;exact decide_eq_decide.2 (by omega)
   refine ⟨hb,fun ht=>⟨?_,?_⟩⟩
   ·show (⟨n+1,cB P (s.part+1)+u.text.length,s.cls,dE u⟩:br)=⟨n+1,(toS P n s).at_+u.text.length,s.cls,dE u⟩;rw [cR]
   have ht:=hb.trans ht;rw [decide_eq_true hl,Bool.true_and] at ht;have:=(Co.1 ht).length_le;exact ⟨⟨by show 0<=s.part+1;omega,hl⟩,⟨by show (0:Int)<=u.text.length;omega,by show (u.text.length:Int)<=(partAt P (s.part+1)).length;omega⟩,fun _=>by show (0:Int)<u.text.length;omega⟩
  have dN:s.part+1=P.length:=(by omega);have eO:cB P (s.part+1)=(P.flatten.length:Int):=(by rw [dN,OR]);have he:iR E.dU (toS P n s).at_=(toS P n s).at_:=by rw [hP.dU];exact OT P 0 _ (by rw [cR,eO];omega)
  have hb:tQ E.snd u.text (toS P n s).at_ (iR E.dU (toS P n s).at_)=false:=by rw [he];unfold tQ;rw [decide_eq_false (by omega),Bool.false_and]
  rw [decide_eq_false hl,Bool.false_and];exact ⟨hb.symm,fun ht=>by rw [hb] at ht;cases ht⟩
 rw [if_neg k1,if_neg k1];by_cases k2:u.kind=2
 ·rw [if_pos k2,if_pos k2];refine ⟨rfl,fun ht=>?_⟩;have ht:(decide (n=0)&&decide (u.text=E.dv.root))=true:=ht;rw [Bool.and_eq_true,decide_eq_true_eq,decide_eq_true_eq] at ht;have gq:=hn ht.1;have hr:=hP.root;rw [<- ht.2] at hr;refine ⟨?_,?_⟩
  ·show (⟨n+1,cB P s.part+u.text.length,s.cls,dE u⟩:br)=⟨n+1,u.text.length,s.cls,dE u⟩;rw [gq,EX,Int.zero_add]
  exact ⟨h1,⟨by show (0:Int)<=u.text.length;omega,by show (u.text.length:Int)<=(partAt P s.part).length;rw [gq];omega⟩,fun _=>by show (0:Int)<u.text.length;omega⟩
 rw [if_neg k2,if_neg k2];have hv:ko u=false:=by unfold ko;rw [decide_eq_false k1,decide_eq_false k2];rfl
 have dE:dE u=0:=by unfold Go.Abs.Wall.Spl.dE;rw [hv];rfl
 by_cases k3:u.kind=3
 ·rw [if_pos k3,if_pos k3];refine ⟨?_,fun ht=>⟨?_,?_⟩⟩
  ·show _=((!decide (E.B.dM=0)&&decide ((u.text.length:Int)<=s.last))&&qg (E.snd.take (cB P s.part+s.done).toNat) u.text);rw [hP.snd,Wh hc]
  ·show (⟨n+1,cB P s.part+s.done,s.cls,0⟩:br)=⟨n+1,cB P s.part+s.done,s.cls,Go.Abs.Wall.Spl.dE u⟩;rw [dE]
  exact ⟨h1,h2,hc.pos⟩
 rw [if_neg k3,if_neg k3];by_cases k4:u.kind=4
 ·rw [if_pos k4,if_pos k4]
  have cR:(toS P n s).at_=(partAt P 0).length↔(s.part=0/\s.done=(partAt P s.part).length):=by
   show cB P s.part+s.done=_↔_;constructor
   ·intro h;by_cases hp:s.part=0
    ·rw [hp,EX] at h;refine ⟨hp,?_⟩;rw [hp];omega
    have h3:=Jc (P:=P) (p:=0+1) (q:=s.part) (by omega) (by omega);have h4:=Cn (P:=P) (p:=0) (by omega) (by omega);have:=hc.pos (by omega);rw [EX] at h4;omega
   rintro ⟨hp,h⟩;rw [hp] at h ⊢;rw [EX];omega
  refine ⟨?_,fun ht=>⟨?_,?_⟩⟩
  ·show (((((!decide (E.B.cls=0))&&kK P s)&&decide (s.part=0))&&!s.cls)&&(!decide (E.dv.cls=[])&&decide (u.text=E.dv.cls)))=((((!decide (E.B.cls=0))&&!s.cls)&&decide (u.text=E.dv.cls))&&decide ((toS P n s).at_=E.dU.headD 0));have BC:decide ((toS P n s).at_=((partAt P 0).length:Int))=(decide (s.part=0)&&decide (s.done=((partAt P s.part).length:Int))):=by rw [Bool.eq_iff_iff,Bool.and_eq_true,decide_eq_true_eq,decide_eq_true_eq,decide_eq_true_eq];exact cR
   rw [hP.head,BC]
   have he:(!decide (E.dv.cls=[])&&decide (u.text=E.dv.cls))=decide (u.text=E.dv.cls):=by
    by_cases e:u.text=E.dv.cls
    ·have:E.dv.cls≠[]:=by rw [<- e];exact List.length_pos_iff.1 hu
     rw [decide_eq_false this,decide_eq_true e];rfl
    rw [decide_eq_false e,Bool.and_false]
   rw [he];unfold kK;by_cases a1:E.B.cls=0<;>by_cases a2:s.part=0<;>by_cases a3:s.done=(partAt P s.part).length<;>by_cases a4:u.text=E.dv.cls<;>cases s.cls<;>simp [a1,a2,a3,a4]
  ·show (⟨n+1,cB P s.part+s.done,true,0⟩:br)=⟨n+1,cB P s.part+s.done,true,Go.Abs.Wall.Spl.dE u⟩;rw [dE]
  exact ⟨h1,h2,hc.pos⟩
 rw [if_neg k4,if_neg k4];exact ⟨rfl,fun h=>by cases h⟩
theorem OY {E:Env} {P:List (List UInt8)} (hP:sA E P) {n:Int} (hn:n≠0) {s:RS} (hc:Can P s) :
  (eU E (toS P n s)).2=Cm E P s/\(Cm E P s=true->(eU E (toS P n s)).1=E.kj+if (!decide (E.dv.cls=[])&&!s.cls)=true then E.H.cq.nH else 0):=by
 have h1:=hc.part;have h2:=hc.done;have EY:=Cn h1.1 h1.2
 have hw:(cB P s.part+s.done<(E.snd.length:Int))↔¬ (s.part=(P.length:Int) - 1/\s.done=(partAt P s.part).length):=by
  rw [hP.snd,<- OR];have hm:=Jc (P:=P) (p:=s.part+1) (q:=P.length) (by omega) (by omega);constructor
  ·rintro h ⟨h3,h4⟩;rw [show s.part+1=(P.length:Int) by omega] at EY;omega
  intro h;by_cases h3:s.part=(P.length:Int) - 1
  ·rw [show s.part+1=(P.length:Int) by omega] at EY;have:s.done≠(partAt P s.part).length:=fun e=>h ⟨h3,e⟩;omega
  have h4:=Cn (P:=P) (p:=s.part+1) (by omega) (by omega);have h5:=hP.OV (p:=s.part+1) (by omega) (by omega);have h6:=Jc (P:=P) (p:=s.part+1+1) (q:=P.length) (by omega) (by omega);omega
 unfold eU Cm kK;show (if (decide (n=0)||(decide (cB P s.part+s.done<(E.snd.length:Int))||mP E s))=true then ((0:Int),false) else if (s.cls||decide (E.dv.cls=[]))=true then (E.kj,true) else (E.kj+E.mi,!decide (E.B.cls=2))).2=_/\(_->(if (decide (n=0)||(decide (cB P s.part+s.done<(E.snd.length:Int))||mP E s))=true then ((0:Int),false) else if (s.cls||decide (E.dv.cls=[]))=true then (E.kj,true) else (E.kj+E.mi,!decide (E.B.cls=2))).1=_);rw [decide_eq_false hn,Bool.false_or,hP.mi];by_cases a:s.part=(P.length:Int) - 1/\s.done=(partAt P s.part).length
 ·rw [decide_eq_false (p:=cB P s.part+s.done<(E.snd.length:Int)) (by rw [hw];exact fun h=>h a),decide_eq_true a.1,decide_eq_true a.2];cases mP E s<;>by_cases b:E.dv.cls=[]<;>cases s.cls<;>by_cases c:E.B.cls=2<;>simp [b,c]
 rw [decide_eq_true (p:=cB P s.part+s.done<(E.snd.length:Int)) (hw.2 a)];have:(decide (s.part=(P.length:Int) - 1)&&decide (s.done=(partAt P s.part).length))=false:=by rw [<- Bool.not_eq_true,Bool.and_eq_true,decide_eq_true_eq,decide_eq_true_eq];exact a
 rw [this];exact ⟨rfl,fun h=>by cases h⟩
end Go.Abs.Wall.Spl
namespace Go.Abs.Wall.Spl
open Go Go.Abs Go.Proofs Go.Abs.Wall
open Go.Abs.Wall.Lst hiding al gL lq jg gk da lr kd lu lx ly lz lA ef lB cg lC oY qT bW jE og mD oZ getAll
def ca (x:Lex) (f:bc):List (List UInt8):=jL x f::f.ah.map fun c=>(cE x c).text
def lP (H:ax):List (List ao):=(List.range H.list.aB.length).map fun (i:Nat)=>fg H (i:Int)
def bC (H:ax) (B:bX) (f:bc):Env:=⟨H,B,cd H.lex f.entry,qh H.lex f,gR (ca H.lex f) 0,mQ H.lex f,if (cd H.lex f.entry).cls=[] then 0 else H.cq.nH,lP H⟩
def gD (H:ax) (B:bX) (f:bc):Int:=if oA H B≠0 then oA H B else dT H.lex f
theorem Wi {H:ax} {B:bX} (h:nG H B=true):B.aB.length=H.list.aB.length/\(0<=B.dM/\B.dM<=2)/\(0<=B.cls/\B.cls<=2)/\∀ n∈B.aB,-1<=n/\n<=1000:=by unfold nG at h;simp only [Bool.and_eq_true,decide_eq_true_eq,dS,Bool.not_eq_true',List.any_eq_false] at h;obtain ⟨⟨⟨h1,h2⟩,h3⟩,h4⟩:=h;refine ⟨by omega,h2,h3,fun n hn=>?_⟩;have:=h4 n hn;unfold zR at this;rw [Bool.not_eq_true',Bool.not_eq_false] at this;exact dS.1 this
theorem Je:∀ (P:List (List UInt8)) (a:Int),(gR P a).length=P.length
 | [],_=>rfl
 | t::r,a=>by rw [gR,List.length_cons,List.length_cons,Je r]
theorem OZ:∀ (P:List (List UInt8)) (a:Int),0<=a->∀ n∈gR P a,0<=n/\n<=a+P.flatten.length
 | [],_,_,n,hn=>by cases hn
 | t::r,a,ha,n,hn=>by
   rw [List.flatten_cons,List.length_append];rcases List.mem_cons.1 hn with rfl|hn
   ·push_cast;omega
   have:=OZ r (a+t.length) (by omega) n hn;push_cast;omega
theorem Pa:∀ (P:List (List UInt8)) (a:Int) (t:List UInt8),gR (P++[t]) a=gR P a++[a+(P.flatten.length+t.length)]
 | [],a,t=>by simp [gR]
 | x::r,a,t=>by rw [List.cons_append,gR,Pa r,gR,List.flatten_cons,List.length_append];show _::(_++_)=_::(_++_);congr 3;push_cast;omega
theorem Wj (x:Lex) (f:bc):(ca x f).flatten=qh x f:=rfl
theorem Jf {H:ax} {i:Nat} {us:List ao} (h:(lP H)[i]?=some us):i<H.list.aB.length/\us=fg H i:=by
 unfold lP at h;rw [List.getElem?_map] at h;cases hr:(List.range H.list.aB.length)[i]? with
 | none=>rw [hr] at h;cases h
 | some j=>
   rw [hr] at h;have hi:=(List.getElem?_eq_some_iff.1 hr).1;rw [List.length_range] at hi;rw [List.getElem?_range hi] at hr;cases hr
   exact ⟨hi,by simpa using h.symm⟩
theorem Jg (H:ax):(lP H).length=H.list.aB.length:=by unfold lP;simp
theorem Pb {H:ax} {i:Nat} (h:i<H.list.aB.length):(lP H)[i]?=some (fg H i):=by unfold lP;rw [List.getElem?_map,List.getElem?_range h];rfl
theorem Cp {H:ax} (hH:ic H) {us:List ao} (h:us∈lP H):us.length<=24/\∀ u∈us,gG u:=by obtain ⟨i,hi⟩:=List.mem_iff_getElem?.1 h;obtain ⟨h1,rfl⟩:=Jf hi;have bf:=(rO hH.oV).each _ (List.mem_of_getElem? (uA (H:=H) (n:=i) (by omega) (by omega)));exact Bm bf
theorem yq {H:ax} {B:bX} {f:bc} (h0:eG H=0) (hr:nG H B=true) (hf:kL H.lex f):gO (bC H B f):=by
 have hH:=ve h0;obtain ⟨hl,_,_,hs⟩:=Wi hr;have aA:=hf.EZ;have bw:=Fa hf.lex hf.dO;have dI:=hf.bE;have hw:=hf.kj;have gn:(qh H.lex f).length<=24:=by unfold qh;rw [List.length_append];omega
 refine ⟨by rw [show (bC H B f).aj=lP H from rfl,Jg];exact hl,by rw [show (bC H B f).aj=lP H from rfl,Jg];exact (rO hH.oV).many,fun us ba=>by have:=(Cp hH ba).1;omega,fun us ba u hu=>((Cp hH ba).2 u hu).2.2.2,hs,by show (qh H.lex f).length<=1000;omega,?_,⟨?_,?_,?_⟩,⟨hw.1,by show mQ H.lex f<=100000;omega⟩,?_,hH.cq⟩
 ·show (cd H.lex f.entry).root.length<=(qh H.lex f).length;unfold qh jL;rw [List.length_append,List.length_append];omega
 ·show gR (ca H.lex f) 0≠[];unfold ca;rw [gR];simp
 ·show (gR (ca H.lex f) 0).length<=1000;rw [Je];unfold ca;rw [List.length_cons,List.length_map];omega
 ·intro n hn;have:=OZ (ca H.lex f) 0 (Int.le_refl _) n hn;rw [Wj] at this;exact ⟨this.1,by show n<=((qh H.lex f).length:Int);omega⟩
 show 0<=(if (cd H.lex f.entry).cls=[] then (0:Int) else H.cq.nH)/\(if (cd H.lex f.entry).cls=[] then (0:Int) else H.cq.nH)<=1000;split
 ·omega
 exact hH.cq _ (by simp [iB])
theorem Fb {H:ax} {B:bX} {f:bc} (h0:eG H=0) (hf:kL H.lex f):sA (bC H B f) (ca H.lex f):=by
 have hH:=ve h0;refine ⟨rfl,rfl,by unfold ca;simp,fun i t ht=>?_,?_,fun us ba u hu=>((Cp hH ba).2 u hu).2.2.1,rfl⟩
 ·unfold ca at ht;rw [List.getElem?_cons_succ,List.getElem?_map] at ht;cases hc:f.ah[i]? with
  | none=>rw [hc] at ht;cases ht
  | some c=>
    rw [hc] at ht;cases ht
    have hb:=hf.dO c (List.mem_of_getElem? hc);have:=mR (hf.lex.cE hb.1 hb.2).text;show 0<(cE H.lex c).text.length;omega
 show (cd H.lex f.entry).root.length<=(partAt (ca H.lex f) 0).length;show (cd H.lex f.entry).root.length<=(jL H.lex f).length;unfold jL;rw [List.length_append];omega
def qi (x:Lex) (f:bc) (i:Nat):List UInt8:=jL x f++jq x (f.ah.take i)
def qj (x:Lex) (f:bc) (i:Nat):List Int:=gR (jL x f::(f.ah.take i).map fun c=>(cE x c).text) 0
theorem Wk (x:Lex) (f:bc):qi x f 0=jL x f:=by unfold qi jq;simp
theorem Wm (x:Lex) (f:bc):qj x f 0=[((jL x f).length:Int)]:=by unfold qj;simp [gR]
theorem Wn {x:Lex} {f:bc} (hf:kL x f) (i:Nat):(qi x f i).length<=24:=by have h1:=hf.EZ;have h2:=hf.bE;have h3:=Fa hf.lex (l:=f.ah.take i) fun c hc=>hf.dO c (List.mem_of_mem_take hc);rw [List.length_take] at h3;unfold qi;rw [List.length_append];omega
theorem Wo {x:Lex} {f:bc} (hf:kL x f) (i:Nat):(qj x f i).length<=4:=by have h2:=hf.bE;unfold qj;rw [Je,List.length_cons,List.length_map,List.length_take];omega
theorem Jh {x:Lex} {f:bc} {i:Nat} {c:Int} (hc:f.ah[i]?=some c):qi x f (i+1)=qi x f i++(cE x c).text:=by unfold qi;rw [dg hc,Pc,List.append_assoc]
theorem Wp {x:Lex} {f:bc} {i:Nat} {c:Int} (hc:f.ah[i]?=some c):qj x f (i+1)=qj x f i++[((qi x f (i+1)).length:Int)]:=by have h1:=Jh (x:=x) hc;unfold qj;rw [dg hc,List.map_append,<- List.cons_append,List.map_singleton,Pa,h1];unfold qi jq;rw [List.flatten_cons,List.length_append,List.length_append,List.length_append];congr 2;push_cast;omega
theorem Wq (x:Lex) (f:bc):qi x f f.ah.length=qh x f:=by unfold qi;rw [List.take_length];rfl
theorem Wr (x:Lex) (f:bc):qj x f f.ah.length=gR (ca x f) 0:=by unfold qj;rw [List.take_length];rfl
def c103:aw:=⟨[0,1,2,3,4,5,21],[],[],[],[],[]⟩
def c53:aw:=⟨[0,1,2,3,4,5,6,7,8,9,10,12,13,14,15,20,27,62,63,64,65,112,113,114,123],[41,58],[],[],[(13,[0,1,2,3,4,5,6,7,8,9,10,11,12,13,14],[]),(14,[0,1,2,3,4,5,6,7,8,9,10,11,12,13,14],[])],[]⟩
theorem Ws (H:ax) (f:bc) (hx:rh H.lex) (hf:kL H.lex f) (h0:dT H.lex f=0):ae Tryz.prog 103 [.agg (bJ H),.agg (dm f)] [] (.aQ [.int .i64 (mQ H.lex f),.int .i64 (if (cd H.lex f.entry).cls=[] then 0 else H.cq.nH)]):=by
 have dI:=hf.bE;have hW:=Pd H.lex f hx (by unfold aq;omega);rw [if_pos h0] at hW;refine aG (F:=Tryz.f103) c103 rfl rfl rfl mixed rfl fun X=>?_;(conv=>whnf);repeat ((first|refine ae.k0 (hW) ?_|(refine cj f.entry.toNat (by have:=hf.entry;omega) (oB hf.entry.1 hf.entry.2) ?_));conv=>whnf)
 refine ⟨fun hc=>?_,fun hc=>?_⟩<;>simp at hc
 ·rw [if_neg hc];(conv=>whnf);skip;exact ⟨rfl,rfl⟩
 rw [if_pos hc];(conv=>whnf);skip;exact ⟨rfl,rfl⟩
theorem Fc:∀ {xs ys wC Pe:List AV},cP xs ys->cP wC Pe->cP (xs++wC) (ys++Pe)
 | _,_,_,_,.nil,h=>h
 | _,_,_,_,.cons h1 h2,h=>.cons h1 (Fc h2 h)
def vf:List (br × Int)->Ob:=fun es=>.map (po uX (AV.int .i64) es)
def Cq (H:ax) (B:bX) (f:bc) (sv:List UInt8) (bv uv:AV) (wg ms:Int) (nb cb:Nat):List AV:=bJ H++(mj B++(fu (cd H.lex f.entry)++[.str sv,bv,.int .i64 wg,.int .i64 ms,uv,.omap nb,.omap cb]))
theorem HH (H:ax) (B:bX) (f:bc) (hh:eP H) (hB:wB B) (eO:f.ah.length<=aq) :
  ay Tryz.prog 53 [.agg (bJ H),.agg (mj B),.agg (dm f)] []
   (fun v h'=>(gD H B f≠0/\v=.aQ [.jV,.int .i64 (gD H B f)]/\h'=[])\/(gD H B f=0/\∃ nb cb,v=.aQ [.au (kG (bC H B f) (.omap nb) (.omap cb)),.int .i64 0]/\h'=[(nb,ea []),(cb,vf [])])):=by
 have EM:=Fe H.lex f hh.lex eO;have aA:=Wt H.lex f hh.lex eO;have kI:=hh.list.aB;unfold aq at kI
 have key:ay Tryz.prog 53 [.agg (bJ H),.agg (mj B),.agg (dm f)] []
   (fun v h'=>(gD H B f≠0/\v=.aQ [.jV,.int .i64 (gD H B f)])\/(gD H B f=0/\∃ sb nb cb bv bh uv uh,v=.aQ [.bn sb 0,.int .i64 0]/\Out 1 (fun n=>[AV.int .i64 n]) (gR (ca H.lex f) 0) bv bh/\Out 1 fD (lP H) uv uh /\
     h'.Perm ((sb,.vec (Cq H B f (qh H.lex f) bv uv (mQ H.lex f) (bC H B f).mi nb cb))::(nb,ea [])::(cb,vf [])::(bh++uh)))):=by
  refine aG (F:=Tryz.f53) c53 rfl rfl rfl mixed rfl fun X=>?_;(conv=>whnf);repeat (refine ae.k0 (OQ H B hh hB) ?_;conv=>whnf)
  refine ⟨fun h0=>?_,fun h0=>?_⟩<;>simp at h0
  ·(conv=>whnf);left;unfold gD;rw [if_pos h0];exact ⟨h0,rfl⟩
  (conv=>whnf);repeat (refine ae.k0 (EM) ?_;conv=>whnf)
  have uO:gD H B f=dT H.lex f:=by unfold gD;rw [if_neg (by omega)]
  refine ⟨fun h1=>?_,fun h1=>?_⟩<;>simp at h1
  ·(conv=>whnf);left;rw [uO];exact ⟨h1,rfl⟩
  obtain ⟨jG,oS⟩:=Ck h0;have hH:=ve jG;have hf:=mG h1;have dI:=hf.bE;have Pf:=Ws H f hh.lex hf h1;rw [if_pos h1,h1] at aA;have gn:=hf.EZ;(conv=>whnf);refine Wu rfl mixed [0,1,2,3,4,5,6,7,8] [9,10] [11,12,13] [] (by show aJ (aH Tryz.f53 _) _=true;decide +kernel) ?_;(conv=>whnf);repeat ((refine cj f.entry.toNat (by have:=hf.entry;omega) (oB hf.entry.1 hf.entry.2) ?_);conv=>whnf)
  apply Wv
  ·intro key;refine ⟨by decide +kernel,?_,?_,trivial⟩
   ·(conv=>whnf);refine ⟨by decide +kernel,?_⟩;(conv=>whnf);intro n1;(conv=>whnf);refine ⟨by decide +kernel,?_,trivial⟩;(conv=>whnf);refine ⟨by decide +kernel,?_⟩;(conv=>whnf);intro n2;(conv=>whnf);repeat (intro (nb:Nat);conv=>whnf)
    exact ⟨_,_,ar.refl _ _,key n1 n2 nb⟩
   (conv=>whnf);refine ⟨by decide +kernel,?_⟩;(conv=>whnf);intro n2;(conv=>whnf);refine ⟨by decide +kernel,?_,trivial⟩;(conv=>whnf);refine ⟨by decide +kernel,?_⟩;(conv=>whnf);intro n1;(conv=>whnf);repeat (intro (nb:Nat);conv=>whnf)
   exact ⟨_,_,ar.perm (.cons _ (.swap _ _ _)),key n1 n2 nb⟩
  intro n1 n2 b;(conv=>whnf);repeat ((first|refine ae.k0 (aA) ?_|(refine ⟨_,_,.here _,aF,?_⟩)|refine ⟨_,_,.head _,rfl,?_⟩|refine ⟨_,_,.there (.here _),aF,?_⟩|intro (nb:Nat));conv=>whnf)
  refine cy rfl mixed [3,5,10,62,63,64] [] (fun m r h=>∃ (i:Nat) (q sb n1 n2:Nat),r=[(3,[],.au (bJ H)),(5,[],.au (dm f)),(10,[],.bn sb 0),(62,[],.sl 1 none (ints f.ah)),(63,[],.int .i64 (ints f.ah).length),(64,[],.int .i64 i)]/\h=(q,.tok)::(sb,.vec (Cq H B f (qi H.lex f i) (.sl 1 (some q) (ints (qj H.lex f i))) .aW 0 0 n1 n2))::(n2,.map [])::[(n1,.map [])]/\m=f.ah.length - i/\i<=f.ah.length) ?_ ?_
  ·(conv=>whnf);exact ⟨_,_,ar.refl _ _,_,0,nb,b,n1,n2,rfl,by rw [Wk,Wm];rfl,rfl,by omega⟩
  rintro m r h' ⟨i,q,sb,n1,n2,rfl,rfl,rfl,hi⟩;(conv=>whnf);refine ⟨fun hz=>?_,fun hz=>?_⟩<;>simp [dB] at hz
  ·obtain ⟨c,hc⟩:=aN hz;have fH:=hf.dO c (List.mem_of_getElem? hc);have zT:=mR (hf.lex.cE fH.1 fH.2).text;have IL:=Wn hf i;have Pg:(ints (qj H.lex f i)).length<=4:=by rw [dB];exact Wo hf i
   (conv=>whnf);repeat ((first|refine ⟨af ⟨by omega,by omega⟩,?_⟩|refine ix (by assumption) ?_|(refine cj c.toNat (by omega) (kM fH.1 fH.2) ?_)|(refine ⟨af (by rw [List.length_append];unfold aq;omega),?_⟩)|(refine ⟨_,_,.tail _ (.head _),rfl,?_⟩)|(refine ⟨_,_,.there (.here _),aF,?_⟩)|(refine ⟨(by rw [List.length_append,List.length_singleton];unfold aV;omega),fun q'=>⟨_,.here _,?_⟩⟩)|refine And.intro (by show aJ (aH Tryz.f53 _) _=true;decide +kernel) ?_);conv=>whnf)
   refine ⟨_,_,ar.refl _ _,_,(by omega),i+1,q',sb,n1,n2,rfl,?_,rfl,by omega⟩;have h1:ints (qj H.lex f (i+1))=ints (qj H.lex f i)++[[.int .i64 ((qi H.lex f i++(cE H.lex c).text).length:Nat)]]:=by rw [Wp hc,Jh hc];unfold ints;rw [List.map_append];rfl
   rw [h1,Jh hc];rfl
  have bO:i=f.ah.length:=(by omega);subst bO;rw [Wq,Wr]
  have yr:∀ (j:Nat),j<H.list.aB.length->ae Tryz.prog 104 [.agg (bJ H),.int .i64 j] [] (.aQ [.sl 2 none ((fg H j).map aT),.int .i64 0]):=by
   intro j hj;have hU:=Ww H j hh;have he:tU H j=0:=by unfold tU;rw [if_neg (by omega),if_neg];rw [Bool.not_eq_false,dS];omega
   unfold Cr at hU;rw [if_pos he,he] at hU;exact hU
  (conv=>whnf);repeat ((first|refine ae.k0 (Pf) ?_|refine ⟨_,_,.there (.here _),aF,?_⟩);conv=>whnf)
  refine cy rfl mixed [3,10,112,113] [] (fun m r h=>∃ (i:Nat) (q sb n1 n2:Nat) (uv:AV) (uh:ab),r=[(3,[],.au (bJ H)),(10,[],.bn sb 0),(112,[],.int .i64 (H.list.aB.map jo).length),(113,[],.int .i64 i)]/\h=(q,.tok)::(sb,.vec (Cq H B f (qh H.lex f) (.sl 1 (some q) (ints (gR (ca H.lex f) 0))) uv (mQ H.lex f) (bC H B f).mi n1 n2))::(n2,.map [])::(n1,.map [])::uh/\m=H.list.aB.length - i/\i<=H.list.aB.length/\Out 1 fD ((lP H).take i) uv uh) ?_ ?_
  ·(conv=>whnf);exact ⟨_,_,ar.refl _ _,_,0,q,sb,n1,n2,.aW,[],rfl,rfl,rfl,by omega,.inl ⟨by simp,rfl,rfl⟩⟩
  rintro m r h' ⟨i,q,sb,n1,n2,uv,uh,rfl,rfl,rfl,hi,ho⟩;(conv=>whnf);refine ⟨fun hz=>?_,fun hz=>?_⟩<;>simp at hz
  ·have hu:=yr i hz;have rY:=dg (Pb hz);have Og:=(rO hH.oV).many;have jb:(((lP H).take i).map fD).length<=200:=by rw [List.length_map,List.length_take];omega
   rcases ho with ⟨hn,rfl,rfl⟩|⟨qu,rfl,rfl⟩
   ·(conv=>whnf);repeat (refine ae.k0 (hu) ?_;conv=>whnf)
    refine cF rfl ?_;(conv=>whnf);repeat ((first|refine ⟨af ⟨by omega,by omega⟩,?_⟩|(refine ⟨Nat.le_of_ble_eq_true rfl,fun q'=>?_⟩)|(refine ⟨_,_,.there (.there (.here _)),aF,?_⟩)|refine ⟨_,_,.tail _ (.head _),rfl,?_⟩);conv=>whnf)
    exact ⟨_,_,ar.perm (List.perm_middle (l₁:=[_,_,_,_])).symm,_,(by omega),i+1,q,sb,n1,n2,_,[(q',.tok)],rfl,rfl,rfl,by omega,.inr ⟨q',by rw [rY,hn];rfl,rfl⟩⟩
   (conv=>whnf);repeat (refine ae.k0 (hu) ?_;conv=>whnf)
   refine cF rfl ?_;(conv=>whnf);repeat ((first|refine ⟨af ⟨by omega,by omega⟩,?_⟩|(refine ⟨(by rw [List.length_append,List.length_singleton];unfold aV;omega),fun q'=>⟨_,.there (.there (.there (.there (.here _)))),?_⟩⟩)|(refine ⟨_,_,.tail _ (.head _),rfl,?_⟩)|(refine ⟨_,_,.there (.here _),aF,?_⟩));conv=>whnf)
   exact ⟨_,_,ar.refl _ _,_,(by omega),i+1,q,sb,n1,n2,_,[(q',.tok)],rfl,rfl,rfl,by omega,.inr ⟨q',by rw [rY,List.map_append];rfl,rfl⟩⟩
  have bO:i=H.list.aB.length:=(by omega);subst bO;rw [List.take_of_length_le (by rw [Jg];exact Nat.le_refl _)] at ho;(conv=>whnf);skip;refine .inr ⟨by rw [uO];exact h1,sb,n1,n2,.sl 1 (some q) (ints (gR (ca H.lex f) 0)),[(q,.tok)],uv,uh,rfl,.inr ⟨q,rfl,rfl⟩,ho,?_⟩;refine (List.Perm.trans (List.perm_append_comm (l₁:=[(q,Ob.tok)]) (l₂:=(sb,_)::(n2,.map [])::(n1,.map [])::uh)) ?_);refine List.Perm.cons _ ((List.Perm.swap _ _ _).trans (List.Perm.cons _ (List.Perm.cons _ ?_)));exact List.perm_append_comm
 have Wx:ay Tryz.prog 53 [.agg (bJ H),.agg (mj B),.agg (dm f)] []
   (fun v h'=>(gD H B f≠0/\v=.aQ [.jV,.int .i64 (gD H B f)]/\h'=[])\/(gD H B f=0/\∃ sb nb cb bv bh uv uh,v=.aQ [.bn sb 0,.int .i64 0]/\Out 1 (fun n=>[AV.int .i64 n]) (gR (ca H.lex f) 0) bv bh/\Out 1 fD (lP H) uv uh /\
     h'=(sb,.vec (Cq H B f (qh H.lex f) bv uv (mQ H.lex f) (bC H B f).mi nb cb))::(nb,ea [])::(cb,vf [])::(bh++uh))):=by
  refine ay.post key ?_;rintro v h1 (⟨h,rfl⟩|⟨h,sb,nb,cb,bv,bh,uv,uh,rfl,ry,cr,hp⟩)
  ·exact ⟨_,_,.inl ⟨h,rfl,rfl⟩,ag.refl _,fun k o hm=>(by cases hm),fun _=>(by simp [keys])⟩
  exact ⟨_,_,.inr ⟨h,sb,nb,cb,bv,bh,uv,uh,rfl,ry,cr,rfl⟩,ag.refl _,fun k o hm=>hp.mem_iff.2 hm,fun hn=>by unfold keys at hn ⊢;exact ((hp.map _).nodup_iff).1 hn⟩
 refine ay.post (R:=fun v h'=>(gD H B f≠0/\v=.aQ [.jV,.int .i64 (gD H B f)]/\h'=[])\/(gD H B f=0/\∃ nb cb bv bh uv uh,v=.aQ [.au (Cq H B f (qh H.lex f) bv uv (mQ H.lex f) (bC H B f).mi nb cb),.int .i64 0]/\Out 1 (fun n=>[AV.int .i64 n]) (gR (ca H.lex f) 0) bv bh/\Out 1 fD (lP H) uv uh /\
    h'=(nb,ea [])::(cb,vf [])::(bh++uh))) (ay.Ff Wx ?_) ?_
 ·rintro v h1 (⟨h,rfl,rfl⟩|⟨h,sb,nb,cb,bv,bh,uv,uh,rfl,ry,cr,rfl⟩)
  ·exact .inl (.inl ⟨h,rfl,rfl⟩)
  exact .inr ⟨sb,_,_,_,_,.here _,kN.refl _,.aQ (.cons (.ptr rfl) (.cons (.refl _) .nil)),.inr ⟨h,nb,cb,bv,bh,uv,uh,rfl,ry,cr,rfl⟩⟩
 rintro v h1 (⟨h,rfl,rfl⟩|⟨h,nb,cb,bv,bh,uv,uh,rfl,ry,cr,rfl⟩)
 ·exact ⟨_,_,.inl ⟨h,rfl,rfl⟩,ag.refl _,fun k o hm=>hm,fun hn=>hn⟩
 refine ⟨_,_,.inr ⟨h,nb,cb,rfl,rfl⟩,ag.aQ (.cons (ag.au ?_) (.cons (ag.refl _) .nil)),fun k o hm=>?_,fun hn=>?_⟩
 ·exact Fc (cP.refl _) (Fc (cP.refl _) (Fc (cP.refl _) (.cons (ag.refl _) (.cons (ry.le (by decide)) (.cons (ag.refl _) (.cons (ag.refl _) (.cons (cr.le (by decide)) (.cons (ag.refl _) (.cons (ag.refl _) .nil)))))))))
 ·rcases List.mem_cons.1 hm with h|h
  ·rw [h];exact List.mem_cons_self
  rcases List.mem_cons.1 h with h|h
  ·rw [h];exact List.mem_cons_of_mem _ List.mem_cons_self
  cases h
 unfold keys at hn ⊢;have h2:=(List.nodup_append.1 (show ([nb,cb]++(bh++uh).map (fun p:Nat × Ob=>p.1)).Nodup from hn)).1;exact h2
end Go.Abs.Wall.Spl
namespace Go.Abs.Wall.Spl
open Go Go.Abs Go.Proofs Go.Abs.Wall
open Go.Abs.Wall.Lst hiding al gL lq jg gk da lr kd lu lx ly lz lA ef lB cg lC oY qT bW jE og mD oZ getAll
end Go.Abs.Wall.Spl
