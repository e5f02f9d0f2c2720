/- What is proved: small laws for the walks of this seat, and contracts of its functions. No condition but those each theorem names. -/
import Derived.Test.YtbmcnieifibckaaGreatN22
import Derived.Test.YtbmcnieifibckaaGreatN21
import Derived.Test.YtbmcnieifibckaaGreatN9
import Derived.Test.YtbmcnieifibckaaGreatN8
set_option maxRecDepth 100000
set_option maxHeartbeats 2000000
set_option linter.unusedVariables false
set_option linter.unusedSimpArgs false
namespace Go.Abs.Wall.Spl
open Go Go.Abs Go.Proofs Go.Abs.Wall
open Go.Abs.Wall.Lst hiding encWy wyCmp wyCmp_lt wayCompare fndW encWy_len idxW_iff binNil binW insNilW over224 InsR insC OpenR insW_acalls ndC putW NodeS NodeH getV GetC recCall putCall getStep getAll
theorem getAll (E:Env) (hE:EOK E):∀ (d:Nat) (x:Sta),StOK E x→(12 - x.n).toNat=d→GetC E x∧NodeC E x:=by
 intro d
 induction d with
 | zero=>
   intro x hx hd
   have hn:=hx.n
   have IH:∀ y,StOK E y→y.n=x.n+1→GetC E y:=fun y hy hyn=>by have:=hy.n;omega
   have hN:=nodeStep E hE x hx IH
   exact ⟨getStep E hE x hx hN IH,hN⟩
 | succ d ih=>
   intro x hx hd
   have hn:=hx.n
   have IH:∀ y,StOK E y→y.n=x.n+1→GetC E y:=fun y hy hyn=>(ih y hy (by omega)).1
   have hN:=nodeStep E hE x hx IH
   exact ⟨getStep E hE x hx hN IH,hN⟩
theorem Nds.at {E:Env} {n:Int}:∀ {c:Nat} {d:Int} {es:Ents} {hp:Heap},Nds E c d es hp→d≤n→n≤12→∃ c' hA hB,hp=hA++hB∧Nds E c' n es hB∧∀ ext hB',(∀ p∈ext,n≤p.1.n)→Nds E c' n (es++ext) hB'→Nds E c d (es++ext) (hA++hB')
 | _,d,es,_,.done h,h1,h2=>by omega
 | _,d,es,_,.step (hA:=hA) (hB:=hB) nA nB,h1,h2=>by
   by_cases he:d=n
   ·subst he
    exact ⟨_,[],_,rfl,.step nA nB,fun ext hB' _ h=>h⟩
   ·obtain ⟨c',hA2,hB2,e,k,f⟩:=Nds.at (n:=n) nB (by omega) h2
    refine ⟨c',hA++hA2,hB2,by rw [e,List.append_assoc],k,fun ext hB' hx h=>?_⟩
    rw [List.append_assoc]
    exact .step (nA.more fun p hp=>by have:=hx p hp;omega) (f ext hB' hx h)
theorem permE {m:Nat × Ob} {A B C D:Heap}:(m::D++(A++(B++C))).Perm (A++m::(B++(C++D))):=by
 refine List.Perm.trans ?_ List.perm_middle.symm
 refine List.Perm.cons _ ?_
 refine List.Perm.trans List.perm_append_comm ?_
 simp
theorem getAt {E:Env} (hE:EOK E) {x:Sta} (hx:StOK E x) {nb:Nat} {cv:AV} {es:Ents} {c:Nat} {hp:Heap} {rank:Nat} (hn:Nds E c 0 es hp) (hr:rank≤64) (A B:Heap) :
  ACalls Tryz.prog 105 [.iptr (seaC E (.omap nb) cv),.agg (encSta x),.int .i64 rank] (A++(nb,mapS es)::(B++hp))
   (fun v H'=>v=getV E x rank∧∃ ext hp',Nds E c 0 (es++ext) hp'∧(lookA x (es++ext)).isSome=true∧H'=A++(nb,mapS (es++ext))::(B++hp')):=by
 obtain ⟨c',hA,hB,rfl,k,f⟩:=hn.at hx.n.1 hx.n.2
 refine ACalls.re ((getAll E hE _ x hx rfl).1 nb cv es c' hB rank k hr) (h2:=A++(B++hA)) permE ?_
 rintro v h1 ⟨hv,ext,hp',he,hn',hls,rfl⟩
 exact ⟨_,permE,hv,ext,hA++hp',f ext hp' he hn',hls,rfl⟩
theorem nodeQ {E:Env} {x:Sta} {nb k:Nat} {cv:AV} {es:Ents} (hlk:lookA x es=some k) {h:Heap} (hm:(nb,mapS es)∈h) :
  QCall Tryz.prog 106 [.iptr (seaC E (.omap nb) cv),.agg (encSta x)] h (.optr k 0):=by
 refine fcalls (F:=Tryz.f106) c106 rfl rfl rfl mixed rfl fun X=>?_
 conv=>whnf
 repeat ((first|(refine lkS hm ?_)|refine And.intro (by show drawOK (opsAt Tryz.f106 _) _=true;decide +kernel) ?_);conv=>whnf)
 rw [hlk]
 refine cT rfl ?_
 conv=>whnf
 skip
 exact ⟨rfl,rfl⟩
theorem Nds.node {E:Env} {x:Sta} {k:Nat} (hx:StOK E x) {c:Nat} {es:Ents} {hp:Heap} (hn:Nds E c 0 es hp) (hlk:lookA x es=some k):∃ fv ov due,(k,Ob.vec (ndC (mvV E x) fv ov due))∈hp:=by
 obtain ⟨c',hA,hB,rfl,nn,f⟩:=hn.at hx.n.1 hx.n.2
 cases nn with
 | done h=>have:=hx.n;omega
 | step nA nB=>
   obtain ⟨hX,h1,hY,rfl,hnx,_⟩:=nA.pick rfl hlk
   obtain ⟨t,due,Q,fv,fh,ov,oh,_,_,_,rfl⟩:=hnx
   exact ⟨fv,ov,due,by simp⟩
structure Spl where
 signs:List Int
 uses:List Use
 cost:Int
deriving DecidableEq
def encSpl (p:Spl):List AV:=[.sl 1 none (ints p.signs),.sl 2 none (p.uses.map encUse),.int .i64 p.cost]
def st0:Sta:=⟨0,0,false,0⟩
def splOf (E:Env) (w:Wy):Spl:=⟨(pathS E st0 w).map (·.sign),(pathS E st0 w).map (·.use),w.cost / 16⟩
def splV (E:Env) (rank:Nat):AV:=match (wayS E st0)[rank]? with
 | none=>.tup [.agg [.nilS,.nilS,.int .i64 0],.bool false]
 | some w=>.tup [.agg (encSpl (splOf E w)),.bool true]
theorem st0_ok {E:Env}:StOK E st0:=⟨⟨by decide,by decide⟩,⟨by decide,by show (0:Int)≤_;omega⟩,⟨by decide,by decide⟩⟩
def c55:Cfg:=⟨[0,1,4,5,6,7,8,18,26],[],[8],[],[(7,[0,1,2,3,4,5,6,7,8,9,10,11],[8])],[]⟩
theorem spellingW (E:Env) (hE:EOK E) (tb:Nat) (cv:AV) (es:Ents) (c:Nat) (hp:Heap) (rank:Nat) (hr:rank≤64) (hN:Nds E c 0 es hp) :
  ACalls Tryz.prog 55 [.iptr (seaC E (.omap tb) cv),.int .i64 rank] ((tb,mapS es)::hp)
   (fun v h'=>v=splV E rank∧∃ ext hp',Nds E c 0 (es++ext) hp'∧h'=(tb,mapS (es++ext))::hp'):=by
 refine ACalls.post (R:=fun v h'=>∃ v',v'=splV E rank∧VLe v v'∧∃ ext hp' Z,Nds E c 0 (es++ext) hp'∧h'.Perm ((tb,mapS (es++ext))::hp'++Z)) ?_ ?_
 ·refine fcalls (F:=Tryz.f55) c55 rfl rfl rfl mixed rfl fun X=>?_
  conv=>whnf
  repeat ((first|(intro (b7:Nat))|(refine ACalls.mono ?_ (getAt hE st0_ok hN hr [_,_] []))|refine ⟨_,_,.head _,rfl,?_⟩|refine ⟨_,_,.here _,leOK,?_⟩);conv=>whnf)
  rintro v h' ⟨rfl,ext,hp',hN',hls,rfl⟩
  clear hN
  obtain ⟨es1,hes1⟩:∃ e,e=es++ext:=⟨_,rfl⟩
  rw [← hes1] at hN' hls
  rw [← hes1]
  cases hw:(wayS E st0)[rank]? with
  | none=>
    have hgv:getV E st0 rank=.tup [.agg zeroWy,.bool false]:=by unfold getV;rw [hw]
    rw [hgv]
    conv=>whnf
    repeat ((first|(intro (b7:Nat))|refine ⟨_,_,.here _,leOK,?_⟩);conv=>whnf)
    refine cT rfl ?_
    conv=>whnf
    repeat ((refine ⟨_,_,.there (.there (.here _)),leOK,?_⟩);conv=>whnf)
    refine ⟨_,_,.tail _ (.tail _ (.head _)),rfl,?_⟩
    refine ⟨_,rfl,?_,ext,hp',[_,_,_],by rw [← hes1];exact hN',by rw [← hes1];exact List.perm_append_comm (l₁:=[_,_,_])⟩
    unfold splV
    rw [hw]
    exact VLe.refl _
  | some w0=>
    have hgv:getV E st0 rank=.tup [.agg (encWy w0),.bool true]:=by unfold getV;rw [hw]
    rw [hgv]
    conv=>whnf
    repeat ((first|(intro (b7:Nat))|refine ⟨_,_,.here _,leOK,?_⟩);conv=>whnf)
    refine cF rfl ?_
    conv=>whnf
    repeat ((first|(refine ⟨_,_,.there (.there (.here _)),leOK,?_⟩)|refine ⟨_,_,.head _,rfl,?_⟩);conv=>whnf)
    refine tloop rfl mixed [0,4,6,7] [] (fun m r h=>∃ (x:Sta) (ρ:Nat) (w:Wy) (L:List Mv) (sv uv:AV) (sh uh hp:Heap) (ext:Ents) (wb xb ob:Nat),r=[(0,[],.iptr (seaC E (.omap tb) cv)),(4,[],.optr ob 0),(6,[],.optr xb 0),(7,[],.optr wb 0)]∧h=(wb,.vec (encWy w))::(xb,.vec (encSta x))::(ob,.vec [sv,uv,.int .i64 (w0.cost / 16)])::(tb,mapS (es1++ext))::(sh++(uh++hp))∧m=(13 - x.n).toNat∧StOK E x∧(wayS E x)[ρ]?=some w∧pathS E st0 w0=L++pathS E x w∧(L.length:Int)=x.n∧ρ≤64∧Nds E c 0 (es1++ext) hp∧(lookA x (es1++ext)).isSome=true∧((L=[]∧sv=.nilS∧uv=.nilS∧sh=[]∧uh=[])∨∃ q1 q2,sv=.sl 1 (some q1) (ints (L.map (·.sign)))∧uv=.sl 2 (some q2) (L.map fun m=>encUse m.use)∧sh=[(q1,.tok)]∧uh=[(q2,.tok)])) ?_ ?_
    ·conv=>whnf
     exact ⟨_,_,Turn.refl _ _,_,st0,rank,w0,[],.nilS,.nilS,[],[],hp',[],_,_,_,rfl,by rw [List.append_nil];rfl,rfl,st0_ok,hw,rfl,rfl,hr,by rw [List.append_nil];exact hN',by rw [List.append_nil];exact hls,.inl ⟨rfl,rfl,rfl,rfl,rfl⟩⟩
    ·clear hN'
     rintro m r h' ⟨x,ρ,w,L,sv,uv,sh,uh,hp,ext2,wb,xb,ob,rfl,rfl,rfl,hx,hw2,hL,hLn,hρ,hN,hls,ho⟩
     have hn:=hx.n
     conv=>whnf
     repeat (refine ⟨_,_,.head _,rfl,?_⟩;conv=>whnf)
     refine ⟨fun hz=>?_,fun hz=>?_⟩<;>simp at hz
     ·obtain ⟨m,w',hm,hmo,hw',hpe,hc,hrk⟩:=path_step hE hx hw2 (by omega)
      have hnx:=hmo.next
      have hl1:(ints (L.map (·.sign))).length=L.length:=by simp [ints]
      have hl2:(L.map fun m=>encUse m.use).length=L.length:=by simp
      have hgv':getV E m.to w.rank=.tup [.agg (encWy w'),.bool true]:=by unfold getV;rw [hw']
      obtain ⟨k,hlk⟩:=Option.isSome_iff_exists.1 hls
      obtain ⟨fv,ov,due,hk⟩:=hN.node hx hlk
      rcases ho with ⟨hL0,rfl,rfl,rfl,rfl⟩|⟨q1,q2,rfl,rfl,rfl,rfl⟩
      ·have hnq:=nodeQ (E:=E) (cv:=cv) hlk (h:=(wb,Ob.vec (encWy w))::(xb,.vec (encSta x))::(ob,.vec [.nilS,.nilS,.int .i64 (w0.cost / 16)])::(tb,mapS (es1++ext2))::([]++([]++hp))) (.tail _ (.tail _ (.tail _ (.head _))))
       conv=>whnf
       repeat ((first|(refine ⟨.optr k 0,gP_of hnq,?_⟩)|(refine ⟨_,_,.tail _ (.tail _ (.tail _ (.tail _ hk))),rfl,?_⟩)|(refine ixn (enc:=encMv) (w.edge - 1) (by omega) hm ?_)|(refine ⟨_,_,.tail _ (.tail _ (.head _)),rfl,?_⟩)|(refine ⟨_,_,.tail _ (.tail _ (.tail _ (.head _))),rfl,?_⟩)|(refine ⟨Nat.le_of_ble_eq_true rfl,fun q=>?_⟩)|(refine ⟨_,_,.there (.there (.there (.here _))),leOK,?_⟩)|(refine ⟨_,_,.there (.there (.there (.there (.here _)))),leOK,?_⟩)|refine ⟨_,_,Rem.here _,?_⟩|refine ⟨_,_,.head _,rfl,?_⟩|refine ⟨_,_,.tail _ (.head _),rfl,?_⟩|refine ⟨_,_,.here _,leOK,?_⟩|refine And.intro (by show drawOK (opsAt Tryz.f55 _) _=true;decide +kernel) ?_|intro (nb:Nat));conv=>whnf)
       rename_i q1
       refine ACalls.mono ?_ (getAt hE hmo.to hN (rank:=w.rank) (by omega) [(q,.tok),(q1,.tok),(wb,.vec (encWy w)),(xb,.vec (encSta m.to)),(ob,.vec [.sl 1 (some q1) [[.int .i64 m.sign]],.sl 2 (some q) [encUse m.use],.int .i64 (w0.cost / 16)])] [])
       clear hN hls hnq hk
       rintro v h' ⟨rfl,ext3,hp3,hN3,hls3,rfl⟩
       have hae:=List.append_assoc es1 ext2 ext3
       rw [hae] at hN3 hls3
       rw [hgv',hae]
       conv=>whnf
       repeat ((refine ⟨_,_,.there (.there (.here _)),leOK,?_⟩);conv=>whnf)
       refine ⟨_,_,Turn.perm (List.Perm.append_right hp3 ((List.Perm.swap _ _ _).trans (List.perm_append_comm (l₁:=[(q1,Ob.tok),(q,.tok)]) (l₂:=[_,_,_,_])))),_,(by omega),m.to,w.rank,w',L++[m],.sl 1 (some q1) [[.int .i64 m.sign]],.sl 2 (some q) [encUse m.use],[(q1,.tok)],[(q,.tok)],hp3,ext2++ext3,wb,xb,ob,rfl,rfl,rfl,hmo.to,hw',by rw [hL,hpe,List.append_assoc];rfl,by rw [List.length_append];simp;omega,by omega,hN3,hls3,.inr ⟨q1,q,by rw [hL0];rfl,by rw [hL0];rfl,rfl,rfl⟩⟩
      ·have hnq:=nodeQ (E:=E) (cv:=cv) hlk (h:=(wb,Ob.vec (encWy w))::(xb,.vec (encSta x))::(ob,.vec [.sl 1 (some q1) (ints (L.map (·.sign))),.sl 2 (some q2) (L.map fun m=>encUse m.use),.int .i64 (w0.cost / 16)])::(tb,mapS (es1++ext2))::([(q1,.tok)]++([(q2,.tok)]++hp))) (.tail _ (.tail _ (.tail _ (.head _))))
       have hk2:(k,Ob.vec (ndC (mvV E x) fv ov due))∈[(q1,Ob.tok)]++([(q2,.tok)]++hp):=.tail _ (.tail _ hk)
       conv=>whnf
       repeat ((first|(refine ⟨.optr k 0,gP_of hnq,?_⟩)|(refine ⟨_,_,.tail _ (.tail _ (.tail _ (.tail _ hk2))),rfl,?_⟩)|(refine ixn (enc:=encMv) (w.edge - 1) (by omega) hm ?_)|(refine ⟨_,_,.tail _ (.tail _ (.head _)),rfl,?_⟩)|(refine ⟨(by rw [List.length_append,hl1];simp;unfold AMAX;omega),fun q=>⟨_,.there (.there (.there (.there (.here _)))),?_⟩⟩)|(refine ⟨(by rw [List.length_append,hl2];simp;unfold AMAX;omega),fun q=>⟨_,.there (.there (.there (.there (.there (.here _))))),?_⟩⟩)|(refine ⟨_,_,.there (.there (.here _)),leOK,?_⟩)|(refine ⟨_,_,.there (.here _),leOK,?_⟩)|refine ⟨_,_,Rem.here _,?_⟩|refine ⟨_,_,.head _,rfl,?_⟩|refine ⟨_,_,.tail _ (.head _),rfl,?_⟩|refine ⟨_,_,.here _,leOK,?_⟩|refine And.intro (by show drawOK (opsAt Tryz.f55 _) _=true;decide +kernel) ?_|intro (nb:Nat));conv=>whnf)
       rename_i qa
       refine ACalls.mono ?_ (getAt hE hmo.to hN (rank:=w.rank) (by omega) [(wb,.vec (encWy w)),(xb,.vec (encSta m.to)),(ob,.vec [.sl 1 (some qa) (ints (L.map (·.sign))++[[.int .i64 m.sign]]),.sl 2 (some q) (L.map (fun m=>encUse m.use)++[encUse m.use]),.int .i64 (w0.cost / 16)])] [(qa,.tok),(q,.tok)])
       clear hN hls hnq hk hk2
       rintro v h' ⟨rfl,ext3,hp3,hN3,hls3,rfl⟩
       have hae:=List.append_assoc es1 ext2 ext3
       rw [hae] at hN3 hls3
       rw [hgv',hae]
       conv=>whnf
       repeat ((refine ⟨_,_,.here _,leOK,?_⟩);conv=>whnf)
       refine ⟨_,_,Turn.refl _ _,_,(by omega),m.to,w.rank,w',L++[m],.sl 1 (some qa) (ints (L.map (·.sign))++[[.int .i64 m.sign]]),.sl 2 (some q) (L.map (fun m=>encUse m.use)++[encUse m.use]),[(qa,.tok)],[(q,.tok)],hp3,ext2++ext3,wb,xb,ob,rfl,rfl,rfl,hmo.to,hw',by rw [hL,hpe,List.append_assoc];rfl,by rw [List.length_append];simp;omega,by omega,hN3,hls3,.inr ⟨qa,q,by unfold ints;rw [List.map_append,List.map_append];rfl,by rw [List.map_append];rfl,rfl,rfl⟩⟩
     ·have he0:w.edge=0:=by omega
      obtain ⟨hp0,_,_⟩:=path_end hE hx hw2 he0
      conv=>whnf
      repeat ((first|(refine ⟨_,_,.tail _ (.tail _ (.head _)),rfl,?_⟩)|(refine ⟨_,_,.there (.there (.here _)),leOK,?_⟩));conv=>whnf)
      refine ⟨_,rfl,?_,ext++ext2,hp,((wb,.vec (encWy w))::(xb,.vec (encSta x))::(ob,.vec [sv,uv,.int .i64 (w0.cost / 16)])::(sh++uh)),by rw [← List.append_assoc,← hes1];exact hN,?_⟩
      ·unfold splV
       rw [hw]
       have hL2:pathS E st0 w0=L:=by rw [hL,hp0,List.append_nil]
       show VLe _ (.tup [.agg (encSpl (splOf E w0)),.bool true])
       unfold splOf encSpl
       rw [hL2]
       refine VLe.tup (.cons (VLe.agg ?_) (.cons (VLe.refl _) .nil))
       rcases ho with ⟨rfl,rfl,rfl,rfl,rfl⟩|⟨q1,q2,rfl,rfl,rfl,rfl⟩
       ·exact .cons (VLe.nil (by decide)) (.cons (VLe.nil (by decide)) (.cons (VLe.refl _) .nil))
       ·refine .cons VLe.sl (.cons ?_ (.cons (VLe.refl _) .nil))
        rw [List.map_map]
        exact VLe.sl
      ·have hee:es++(ext++ext2)=es1++ext2:=by rw [← List.append_assoc,← hes1]
       rw [hee]
       refine List.Perm.trans ?_ (List.perm_append_comm (l₁:=(wb,.vec (encWy w))::(xb,.vec (encSta x))::(ob,.vec [sv,uv,.int .i64 (w0.cost / 16)])::(sh++uh)) (l₂:=(tb,mapS (es1++ext2))::hp))
       simp only [List.cons_append,List.append_assoc]
       exact List.Perm.cons _ (List.Perm.cons _ (List.Perm.cons _ (by rw [← List.append_assoc,← List.append_assoc];exact List.perm_middle.symm)))
 ·rintro v h1 ⟨v',rfl,hv,ext,hp',Z,hn',hpm⟩
  refine ⟨_,_,⟨rfl,ext,hp',hn',rfl⟩,hv,fun k o hm=>hpm.mem_iff.2 (List.mem_append_left _ hm),fun hn=>?_⟩
  have:=((hpm.map (fun p:Nat × Ob=>p.1)).nodup_iff).1 hn
  unfold keys
  rw [List.map_append] at this
  exact (List.nodup_append.1 this).1
end Go.Abs.Wall.Spl
namespace Go.Abs.Wall.Spl
open Go Go.Abs Go.Proofs Go.Abs.Wall
def badN (n:Int):Bool:=!wthn n (-1) 1000
def rightM (H:Hou) (B:Hab):Bool:=((decide ((B.signs.length:Int)=H.list.signs.length)&&wthn B.rpt 0 2)&&wthn B.cls 0 2)&&!B.signs.any badN
def habErr (H:Hou) (B:Hab):Int:=if houErr H≠0 then houErr H else if rightM H B=true then 0 else 60
structure HabFit (B:Hab):Prop where
 signs:B.signs.length≤1048576
def c179:Cfg:=⟨[0,1,4,5,7,8,9,16],[],[],[],[],[]⟩
def c124:Cfg:=⟨[0,1,4],[],[],[],[],[]⟩
def c54:Cfg:=⟨[0,1,2,6],[],[],[],[],[]⟩
def c125:Cfg:=⟨[0,2],[],[],[],[],[]⟩
def c66:Cfg:=⟨[0,1,2,3,4],[],[],[],[],[]⟩
def c34:Cfg:=⟨[0,1,2,3,4,5,9,14],[],[],[],[],[]⟩
theorem cfInts (l:List Int) (hl:l.length≤LMAX) (f:FuncId) (caps:List AV) (p:Int→Bool) (hp:∀ w∈l,QCall Tryz.prog f (.int .i64 w::caps) [] (.bool (p w))) :
  QCall Tryz.prog 124 [.sl 1 none (ints l),.fn f caps] [] (.bool (l.any p)):=by
 have hi:QCall Tryz.prog 179 [.sl 1 none (ints l),.fn f caps] [] (.int .i64 (firstI p l)):=by
  refine fcalls (F:=Tryz.f179) c179 rfl rfl rfl mixed rfl fun X=>?_
  conv=>whnf
  unfold LMAX at hl
  refine sloop rfl mixed [0,1,7,8] [] (fun m r h=>∃ (i:Nat),r=[(0,[],.sl 1 none (ints l)),(1,[],.fn f caps),(7,[],.int .i64 (ints l).length),(8,[],.int .i64 i)]∧h=[]∧m=l.length - i∧i≤l.length∧Below p l i) ?_ ?_
  ·conv=>whnf
   exact ⟨_,0,rfl,rfl,rfl,by omega,.zero⟩
  ·rintro m r h ⟨i,rfl,rfl,rfl,hi,hg⟩
   conv=>whnf
   refine ⟨fun hc=>?_,fun hc=>?_⟩<;>simp [ints_length] at hc
   ·obtain ⟨x,hx⟩:=get_lt hc
    conv=>whnf
    repeat ((first|refine ix (by assumption) ?_|(refine QCall.k0 (hp x (List.mem_of_getElem? hx)) ?_));conv=>whnf)
    refine ⟨fun hd=>?_,fun hd=>?_⟩
    ·conv=>whnf
     exact ⟨by rw [hg.at hx hd],rfl⟩
    ·conv=>whnf
     repeat (refine ⟨gP_of ⟨by omega,by omega⟩,?_⟩;conv=>whnf)
     exact ⟨_,by omega,i+1,rfl,rfl,rfl,by omega,hg.succ hx hd⟩
   ·conv=>whnf
    exact ⟨by rw [hg.end hc],rfl⟩
 refine fcalls (F:=Tryz.f124) c124 rfl rfl rfl mixed rfl fun X=>?_
 conv=>whnf
 refine QCall.k0 hi ?_
 conv=>whnf
 exact ⟨congrArg AV.bool (firstI_any p l),rfl⟩
theorem spWithin (n lo hi:Int):QCall Tryz.prog 54 [.int .i64 n,.int .i64 lo,.int .i64 hi] [] (.bool (wthn n lo hi)):=by
 refine fcalls (F:=Tryz.f54) c54 rfl rfl rfl mixed rfl fun X=>?_
 conv=>whnf
 skip
 exact ⟨rfl,rfl⟩
theorem spBad (n:Int):QCall Tryz.prog 125 [.int .i64 n] [] (.bool (badN n)):=by
 refine fcalls (F:=Tryz.f125) c125 rfl rfl rfl mixed rfl fun X=>?_
 conv=>whnf
 repeat (refine QCall.k0 (spWithin _ _ _) ?_;conv=>whnf)
 exact ⟨rfl,rfl⟩
theorem spRight (H:Hou) (B:Hab) (hB:HabFit B):QCall Tryz.prog 66 [.agg (encHou H),.agg (encHab B)] [] (.bool (rightM H B)):=by
 have hb:=hB.signs
 have hcf:=cfInts B.signs (by unfold LMAX;omega) 125 [] badN fun n _=>spBad n
 have he:rightM H B=(((decide (((ints B.signs).length:Int)=((H.list.signs.map encSgn).length:Int))&&wthn B.rpt 0 2)&&wthn B.cls 0 2)&&!B.signs.any badN):=by
  unfold rightM
  rw [ints_length,List.length_map]
 rw [he]
 refine fcalls (F:=Tryz.f66) c66 rfl rfl rfl mixed rfl fun X=>?_
 conv=>whnf
 repeat ((first|refine gcall (spWithin _ _ _) ?_|refine gcall (hcf) ?_);conv=>whnf)
 exact ⟨rfl,rfl⟩
theorem spCheckHab (H:Hou) (B:Hab) (hf:HouFit H) (hB:HabFit B):QCall Tryz.prog 34 [.agg (encHou H),.agg (encHab B)] [] (.int .i64 (habErr H B)):=by
 refine fcalls (F:=Tryz.f34) c34 rfl rfl rfl mixed rfl fun X=>?_
 conv=>whnf
 repeat (refine QCall.k0 (checkHouse H hf) ?_;conv=>whnf)
 refine ⟨fun h0=>?_,fun h0=>?_⟩<;>simp at h0
 ·rw [habErr,if_pos h0]
  conv=>whnf
  exact ⟨rfl,rfl⟩
 rw [habErr,if_neg (by omega)]
 conv=>whnf
 repeat (refine QCall.k0 (spRight H B hB) ?_;conv=>whnf)
 refine ⟨fun h1=>?_,fun h1=>?_⟩
 ·have h1:(!rightM H B)=true:=h1
  rw [Bool.not_eq_true'] at h1
  rw [if_neg (by rw [h1];decide)]
  conv=>whnf
  exact ⟨rfl,rfl⟩
 ·have h1:(!rightM H B)=false:=h1
  rw [Bool.not_eq_false'] at h1
  rw [if_pos h1]
  conv=>whnf
  exact ⟨rfl,rfl⟩
theorem habOK {H:Hou} {B:Hab} (h:habErr H B=0):houErr H=0∧rightM H B=true:=by
 unfold habErr at h
 split at h
 ·rename_i h1;exact absurd h h1
 rename_i h1
 split at h
 ·rename_i h2;exact ⟨by omega,h2⟩
 ·cases h
end Go.Abs.Wall.Spl
namespace Go.Abs.Wall.Spl
open Go Go.Abs Go.Proofs Go.Abs.Wall
open Go.Abs.Wall.Lst hiding encWy wyCmp wyCmp_lt wayCompare fndW encWy_len idxW_iff binNil binW insNilW over224 InsR insC OpenR insW_acalls ndC putW
def bnds:List (List UInt8)→Int→List Int
 | [],_=>[]
 | t::r,a=>(a+t.length)::bnds r (a+t.length)
end Go.Abs.Wall.Spl
namespace Go.Abs.Wall.Spl
open Go Go.Abs Go.Proofs Go.Abs.Wall
open Go.Abs.Wall.Lst hiding encWy wyCmp wyCmp_lt wayCompare fndW encWy_len idxW_iff binNil binW insNilW over224 InsR insC OpenR insW_acalls ndC putW NodeS NodeH getV GetC recCall putCall getStep getAll
def partsM (x:Lex) (f:Frm):List (List UInt8):=stemM x f::f.clitics.map fun c=>(cliAt x c).text
def rowsM (H:Hou):List (List Use):=(List.range H.list.signs.length).map fun (i:Nat)=>usesAt H (i:Int)
def envM (H:Hou) (B:Hab) (f:Frm):Env:=⟨H,B,entAt H.lex f.entry,sndM H.lex f,bnds (partsM H.lex f) 0,wgtM H.lex f,if (entAt H.lex f.entry).cls=[] then 0 else H.costs.opn,rowsM H⟩
def begErr (H:Hou) (B:Hab) (f:Frm):Int:=if habErr H B≠0 then habErr H B else frmErr H.lex f
theorem rightOK {H:Hou} {B:Hab} (h:rightM H B=true):B.signs.length=H.list.signs.length∧(0≤B.rpt∧B.rpt≤2)∧(0≤B.cls∧B.cls≤2)∧∀ n∈B.signs,-1≤n∧n≤1000:=by
 unfold rightM at h
 simp only [Bool.and_eq_true,decide_eq_true_eq,wthn_iff,Bool.not_eq_true',List.any_eq_false] at h
 obtain ⟨⟨⟨h1,h2⟩,h3⟩,h4⟩:=h
 refine ⟨by omega,h2,h3,fun n hn=>?_⟩
 have:=h4 n hn
 unfold badN at this
 rw [Bool.not_eq_true',Bool.not_eq_false] at this
 exact wthn_iff.1 this
theorem bnds_len:∀ (P:List (List UInt8)) (a:Int),(bnds P a).length=P.length
 | [],_=>rfl
 | t::r,a=>by rw [bnds,List.length_cons,List.length_cons,bnds_len r]
theorem bnds_in:∀ (P:List (List UInt8)) (a:Int),0≤a→∀ n∈bnds P a,0≤n∧n≤a+P.flatten.length
 | [],_,_,n,hn=>by cases hn
 | t::r,a,ha,n,hn=>by
   rw [List.flatten_cons,List.length_append]
   rcases List.mem_cons.1 hn with rfl|hn
   ·push_cast;omega
   ·have:=bnds_in r (a+t.length) (by omega) n hn
    push_cast
    omega
theorem bnds_snoc:∀ (P:List (List UInt8)) (a:Int) (t:List UInt8),bnds (P++[t]) a=bnds P a++[a+(P.flatten.length+t.length)]
 | [],a,t=>by simp [bnds]
 | x::r,a,t=>by
   rw [List.cons_append,bnds,bnds_snoc r,bnds,List.flatten_cons,List.length_append]
   show _::(_++_)=_::(_++_)
   congr 3
   push_cast
   omega
theorem parts_flat (x:Lex) (f:Frm):(partsM x f).flatten=sndM x f:=rfl
theorem rowsM_get {H:Hou} {i:Nat} {us:List Use} (h:(rowsM H)[i]?=some us):i<H.list.signs.length∧us=usesAt H i:=by
 unfold rowsM at h
 rw [List.getElem?_map] at h
 cases hr:(List.range H.list.signs.length)[i]? with
 | none=>rw [hr] at h;cases h
 | some j=>
   rw [hr] at h
   have hi:=(List.getElem?_eq_some_iff.1 hr).1
   rw [List.length_range] at hi
   rw [List.getElem?_range hi] at hr
   cases hr
   exact ⟨hi,by simpa using h.symm⟩
theorem rowsM_len (H:Hou):(rowsM H).length=H.list.signs.length:=by unfold rowsM;simp
theorem rowsM_at {H:Hou} {i:Nat} (h:i<H.list.signs.length):(rowsM H)[i]?=some (usesAt H i):=by
 unfold rowsM
 rw [List.getElem?_map,List.getElem?_range h]
 rfl
theorem rowsM_ok {H:Hou} (hH:HouOK H) {us:List Use} (h:us∈rowsM H):us.length≤24∧∀ u∈us,UseOK u:=by
 obtain ⟨i,hi⟩:=List.mem_iff_getElem?.1 h
 obtain ⟨h1,rfl⟩:=rowsM_get hi
 have hok:=(lstOK hH.lst).each _ (List.mem_of_getElem? (sgnAt_get (H:=H) (n:=i) (by omega) (by omega)))
 exact usesM_ok hok
theorem env_ok {H:Hou} {B:Hab} {f:Frm} (h0:houErr H=0) (hr:rightM H B=true) (hf:FrmOK H.lex f):EOK (envM H B f):=by
 have hH:=houOK h0
 obtain ⟨hl,_,_,hs⟩:=rightOK hr
 have hst:=hf.stem
 have hcl:=cliT_bound hf.lex hf.cli
 have hfew:=hf.few
 have hw:=hf.wgt
 have hsl:(sndM H.lex f).length≤24:=by unfold sndM;rw [List.length_append];omega
 refine ⟨by rw [show (envM H B f).uses=rowsM H from rfl,rowsM_len];exact hl,by rw [show (envM H B f).uses=rowsM H from rfl,rowsM_len];exact (lstOK hH.lst).many,fun us hus=>by have:=(rowsM_ok hH hus).1;omega,fun us hus u hu=>((rowsM_ok hH hus).2 u hu).2.2.2,hs,by show (sndM H.lex f).length≤1000;omega,?_,⟨?_,?_,?_⟩,⟨hw.1,by show wgtM H.lex f≤100000;omega⟩,?_,hH.costs⟩
 ·show (entAt H.lex f.entry).root.length≤(sndM H.lex f).length
  unfold sndM stemM
  rw [List.length_append,List.length_append]
  omega
 ·show bnds (partsM H.lex f) 0≠[]
  unfold partsM
  rw [bnds]
  simp
 ·show (bnds (partsM H.lex f) 0).length≤1000
  rw [bnds_len]
  unfold partsM
  rw [List.length_cons,List.length_map]
  omega
 ·intro n hn
  have:=bnds_in (partsM H.lex f) 0 (Int.le_refl _) n hn
  rw [parts_flat] at this
  exact ⟨this.1,by show n≤((sndM H.lex f).length:Int);omega⟩
 ·show 0≤(if (entAt H.lex f.entry).cls=[] then (0:Int) else H.costs.opn)∧(if (entAt H.lex f.entry).cls=[] then (0:Int) else H.costs.opn)≤1000
  split
  ·omega
  ·exact hH.costs _ (by simp [costL])
def sndI (x:Lex) (f:Frm) (i:Nat):List UInt8:=stemM x f++cliT x (f.clitics.take i)
def bndI (x:Lex) (f:Frm) (i:Nat):List Int:=bnds (stemM x f::(f.clitics.take i).map fun c=>(cliAt x c).text) 0
theorem sndI_zero (x:Lex) (f:Frm):sndI x f 0=stemM x f:=by unfold sndI cliT;simp
theorem bndI_zero (x:Lex) (f:Frm):bndI x f 0=[((stemM x f).length:Int)]:=by unfold bndI;simp [bnds]
theorem sndI_len {x:Lex} {f:Frm} (hf:FrmOK x f) (i:Nat):(sndI x f i).length≤24:=by
 have h1:=hf.stem
 have h2:=hf.few
 have h3:=cliT_bound hf.lex (l:=f.clitics.take i) fun c hc=>hf.cli c (List.mem_of_mem_take hc)
 rw [List.length_take] at h3
 unfold sndI
 rw [List.length_append]
 omega
theorem bndI_len {x:Lex} {f:Frm} (hf:FrmOK x f) (i:Nat):(bndI x f i).length≤4:=by
 have h2:=hf.few
 unfold bndI
 rw [bnds_len,List.length_cons,List.length_map,List.length_take]
 omega
theorem sndI_succ {x:Lex} {f:Frm} {i:Nat} {c:Int} (hc:f.clitics[i]?=some c):sndI x f (i+1)=sndI x f i++(cliAt x c).text:=by
 unfold sndI
 rw [take_snoc hc,cliT_snoc,List.append_assoc]
theorem bndI_succ {x:Lex} {f:Frm} {i:Nat} {c:Int} (hc:f.clitics[i]?=some c):bndI x f (i+1)=bndI x f i++[((sndI x f (i+1)).length:Int)]:=by
 have h1:=sndI_succ (x:=x) hc
 unfold bndI
 rw [take_snoc hc,List.map_append,← List.cons_append,List.map_singleton,bnds_snoc,h1]
 unfold sndI cliT
 rw [List.flatten_cons,List.length_append,List.length_append,List.length_append]
 congr 2
 push_cast
 omega
theorem sndI_all (x:Lex) (f:Frm):sndI x f f.clitics.length=sndM x f:=by unfold sndI;rw [List.take_length];rfl
theorem bndI_all (x:Lex) (f:Frm):bndI x f f.clitics.length=bnds (partsM x f) 0:=by unfold bndI;rw [List.take_length];rfl
def c103:Cfg:=⟨[0,1,2,3,4,5,21],[],[],[],[],[]⟩
def c53:Cfg:=⟨[0,1,2,3,4,5,6,7,8,9,10,12,13,14,15,20,27,62,63,64,65,112,113,114,123],[41,58],[],[],[(13,[0,1,2,3,4,5,6,7,8,9,10,11,12,13,14],[]),(14,[0,1,2,3,4,5,6,7,8,9,10,11,12,13,14],[])],[]⟩
theorem spWeight (H:Hou) (f:Frm) (hx:LexFit H.lex) (hf:FrmOK H.lex f) (h0:frmErr H.lex f=0):QCall Tryz.prog 103 [.agg (encHou H),.agg (encFrm f)] [] (.tup [.int .i64 (wgtM H.lex f),.int .i64 (if (entAt H.lex f.entry).cls=[] then 0 else H.costs.opn)]):=by
 have hfew:=hf.few
 have hW:=WeightW H.lex f hx (by unfold LMAX;omega)
 rw [if_pos h0] at hW
 refine fcalls (F:=Tryz.f103) c103 rfl rfl rfl mixed rfl fun X=>?_
 conv=>whnf
 repeat ((first|refine QCall.k0 (hW) ?_|(refine ixn f.entry.toNat (by have:=hf.entry;omega) (entAt_get hf.entry.1 hf.entry.2) ?_));conv=>whnf)
 refine ⟨fun hc=>?_,fun hc=>?_⟩<;>simp at hc
 ·rw [if_neg hc]
  conv=>whnf
  skip
  exact ⟨rfl,rfl⟩
 ·rw [if_pos hc]
  conv=>whnf
  skip
  exact ⟨rfl,rfl⟩
theorem VsLe_app:∀ {xs ys xs' ys':List AV},VsLe xs ys→VsLe xs' ys'→VsLe (xs++xs') (ys++ys')
 | _,_,_,_,.nil,h=>h
 | _,_,_,_,.cons h1 h2,h=>.cons h1 (VsLe_app h2 h)
def mapC:List (Sta × Int)→Ob:=fun es=>.map (encA encStaV (AV.int .i64) es)
def begC (H:Hou) (B:Hab) (f:Frm) (sv:List UInt8) (bv uv:AV) (wg ms:Int) (nb cb:Nat):List AV:=encHou H++(encHab B++(encEnt (entAt H.lex f.entry)++[.str sv,bv,.int .i64 wg,.int .i64 ms,uv,.omap nb,.omap cb]))
theorem beginW (H:Hou) (B:Hab) (f:Frm) (hh:HouFit H) (hB:HabFit B) (hfl:f.clitics.length≤LMAX) :
  ACalls Tryz.prog 53 [.agg (encHou H),.agg (encHab B),.agg (encFrm f)] []
   (fun v h'=>(begErr H B f≠0∧v=.tup [.nilP,.int .i64 (begErr H B f)]∧h'=[])∨(begErr H B f=0∧∃ nb cb,v=.tup [.iptr (seaC (envM H B f) (.omap nb) (.omap cb)),.int .i64 0]∧h'=[(nb,mapS []),(cb,mapC [])])):=by
 have hcf:=checkForm H.lex f hh.lex hfl
 have hst:=StemW H.lex f hh.lex hfl
 have hls:=hh.list.signs
 unfold LMAX at hls
 have key:ACalls Tryz.prog 53 [.agg (encHou H),.agg (encHab B),.agg (encFrm f)] []
   (fun v h'=>(begErr H B f≠0∧v=.tup [.nilP,.int .i64 (begErr H B f)])∨(begErr H B f=0∧∃ sb nb cb bv bh uv uh,v=.tup [.optr sb 0,.int .i64 0]∧Out 1 (fun n=>[AV.int .i64 n]) (bnds (partsM H.lex f) 0) bv bh∧Out 1 encUses (rowsM H) uv uh ∧
     h'.Perm ((sb,.vec (begC H B f (sndM H.lex f) bv uv (wgtM H.lex f) (envM H B f).mis nb cb))::(nb,mapS [])::(cb,mapC [])::(bh++uh)))):=by
  refine fcalls (F:=Tryz.f53) c53 rfl rfl rfl mixed rfl fun X=>?_
  conv=>whnf
  repeat (refine QCall.k0 (spCheckHab H B hh hB) ?_;conv=>whnf)
  refine ⟨fun h0=>?_,fun h0=>?_⟩<;>simp at h0
  ·conv=>whnf
   left
   unfold begErr
   rw [if_pos h0]
   exact ⟨h0,rfl⟩
  conv=>whnf
  repeat (refine QCall.k0 (hcf) ?_;conv=>whnf)
  have hbe:begErr H B f=frmErr H.lex f:=by unfold begErr;rw [if_neg (by omega)]
  refine ⟨fun h1=>?_,fun h1=>?_⟩<;>simp at h1
  ·conv=>whnf
   left
   rw [hbe]
   exact ⟨h1,rfl⟩
  obtain ⟨he0,hrt⟩:=habOK h0
  have hH:=houOK he0
  have hf:=frmOK h1
  have hfew:=hf.few
  have hwt:=spWeight H f hh.lex hf h1
  rw [if_pos h1,h1] at hst
  have hsl:=hf.stem
  conv=>whnf
  refine make_region rfl mixed [0,1,2,3,4,5,6,7,8] [9,10] [11,12,13] [] (by show drawOK (opsAt Tryz.f53 _) _=true;decide +kernel) ?_
  conv=>whnf
  repeat ((refine ixn f.entry.toNat (by have:=hf.entry;omega) (entAt_get hf.entry.1 hf.entry.2) ?_);conv=>whnf)
  apply byKey3
  ·intro key
   refine ⟨by decide +kernel,?_,?_,trivial⟩
   ·conv=>whnf
    refine ⟨by decide +kernel,?_⟩
    conv=>whnf
    intro n1
    conv=>whnf
    refine ⟨by decide +kernel,?_,trivial⟩
    conv=>whnf
    refine ⟨by decide +kernel,?_⟩
    conv=>whnf
    intro n2
    conv=>whnf
    repeat (intro (nb:Nat);conv=>whnf)
    exact ⟨_,_,Turn.refl _ _,key n1 n2 nb⟩
   ·conv=>whnf
    refine ⟨by decide +kernel,?_⟩
    conv=>whnf
    intro n2
    conv=>whnf
    refine ⟨by decide +kernel,?_,trivial⟩
    conv=>whnf
    refine ⟨by decide +kernel,?_⟩
    conv=>whnf
    intro n1
    conv=>whnf
    repeat (intro (nb:Nat);conv=>whnf)
    exact ⟨_,_,Turn.perm (.cons _ (.swap _ _ _)),key n1 n2 nb⟩
  ·intro n1 n2 b
   conv=>whnf
   repeat ((first|refine QCall.k0 (hst) ?_|(refine ⟨_,_,.here _,leOK,?_⟩)|refine ⟨_,_,.head _,rfl,?_⟩|refine ⟨_,_,.there (.here _),leOK,?_⟩|intro (nb:Nat));conv=>whnf)
   refine tloop rfl mixed [3,5,10,62,63,64] [] (fun m r h=>∃ (i:Nat) (q sb n1 n2:Nat),r=[(3,[],.iptr (encHou H)),(5,[],.iptr (encFrm f)),(10,[],.optr sb 0),(62,[],.sl 1 none (ints f.clitics)),(63,[],.int .i64 (ints f.clitics).length),(64,[],.int .i64 i)]∧h=(q,.tok)::(sb,.vec (begC H B f (sndI H.lex f i) (.sl 1 (some q) (ints (bndI H.lex f i))) .nilS 0 0 n1 n2))::(n2,.map [])::[(n1,.map [])]∧m=f.clitics.length - i∧i≤f.clitics.length) ?_ ?_
   ·conv=>whnf
    exact ⟨_,_,Turn.refl _ _,_,0,nb,b,n1,n2,rfl,by rw [sndI_zero,bndI_zero];rfl,rfl,by omega⟩
   ·rintro m r h' ⟨i,q,sb,n1,n2,rfl,rfl,rfl,hi⟩
    conv=>whnf
    refine ⟨fun hz=>?_,fun hz=>?_⟩<;>simp [ints_length] at hz
    ·obtain ⟨c,hc⟩:=get_lt hz
     have hcb:=hf.cli c (List.mem_of_getElem? hc)
     have hct:=sndOK_len (hf.lex.cliAt hcb.1 hcb.2).text
     have hsb:=sndI_len hf i
     have hbl:(ints (bndI H.lex f i)).length≤4:=by rw [ints_length];exact bndI_len hf i
     conv=>whnf
     repeat ((first|refine ⟨gP_of ⟨by omega,by omega⟩,?_⟩|refine ix (by assumption) ?_|(refine ixn c.toNat (by omega) (cliAt_get hcb.1 hcb.2) ?_)|(refine ⟨gP_of (by rw [List.length_append];unfold LMAX;omega),?_⟩)|(refine ⟨_,_,.tail _ (.head _),rfl,?_⟩)|(refine ⟨_,_,.there (.here _),leOK,?_⟩)|(refine ⟨(by rw [List.length_append,List.length_singleton];unfold AMAX;omega),fun q'=>⟨_,.here _,?_⟩⟩)|refine And.intro (by show drawOK (opsAt Tryz.f53 _) _=true;decide +kernel) ?_);conv=>whnf)
     refine ⟨_,_,Turn.refl _ _,_,(by omega),i+1,q',sb,n1,n2,rfl,?_,rfl,by omega⟩
     have h1:ints (bndI H.lex f (i+1))=ints (bndI H.lex f i)++[[.int .i64 ((sndI H.lex f i++(cliAt H.lex c).text).length:Nat)]]:=by
      rw [bndI_succ hc,sndI_succ hc]
      unfold ints
      rw [List.map_append]
      rfl
     rw [h1,sndI_succ hc]
     rfl
    ·have hie:i=f.clitics.length:=by omega
     subst hie
     rw [sndI_all,bndI_all]
     have hun:∀ (j:Nat),j<H.list.signs.length→QCall Tryz.prog 104 [.agg (encHou H),.int .i64 j] [] (.tup [.sl 2 none ((usesAt H j).map encUse),.int .i64 0]):=by
      intro j hj
      have hU:=UsesW H j hh
      have he:usesE H j=0:=by
       unfold usesE
       rw [if_neg (by omega),if_neg]
       rw [Bool.not_eq_false,wthn_iff]
       omega
      unfold usesL at hU
      rw [if_pos he,he] at hU
      exact hU
     conv=>whnf
     repeat ((first|refine QCall.k0 (hwt) ?_|refine ⟨_,_,.there (.here _),leOK,?_⟩);conv=>whnf)
     refine tloop rfl mixed [3,10,112,113] [] (fun m r h=>∃ (i:Nat) (q sb n1 n2:Nat) (uv:AV) (uh:Heap),r=[(3,[],.iptr (encHou H)),(10,[],.optr sb 0),(112,[],.int .i64 (H.list.signs.map encSgn).length),(113,[],.int .i64 i)]∧h=(q,.tok)::(sb,.vec (begC H B f (sndM H.lex f) (.sl 1 (some q) (ints (bnds (partsM H.lex f) 0))) uv (wgtM H.lex f) (envM H B f).mis n1 n2))::(n2,.map [])::(n1,.map [])::uh∧m=H.list.signs.length - i∧i≤H.list.signs.length∧Out 1 encUses ((rowsM H).take i) uv uh) ?_ ?_
     ·conv=>whnf
      exact ⟨_,_,Turn.refl _ _,_,0,q,sb,n1,n2,.nilS,[],rfl,rfl,rfl,by omega,.inl ⟨by simp,rfl,rfl⟩⟩
     ·rintro m r h' ⟨i,q,sb,n1,n2,uv,uh,rfl,rfl,rfl,hi,ho⟩
      conv=>whnf
      refine ⟨fun hz=>?_,fun hz=>?_⟩<;>simp at hz
      ·have hu:=hun i hz
       have hts:=take_snoc (rowsM_at hz)
       have hrl:=(lstOK hH.lst).many
       have hml:(((rowsM H).take i).map encUses).length≤200:=by rw [List.length_map,List.length_take];omega
       rcases ho with ⟨hn,rfl,rfl⟩|⟨qu,rfl,rfl⟩
       ·conv=>whnf
        repeat (refine QCall.k0 (hu) ?_;conv=>whnf)
        refine cF rfl ?_
        conv=>whnf
        repeat ((first|refine ⟨gP_of ⟨by omega,by omega⟩,?_⟩|(refine ⟨Nat.le_of_ble_eq_true rfl,fun q'=>?_⟩)|(refine ⟨_,_,.there (.there (.here _)),leOK,?_⟩)|refine ⟨_,_,.tail _ (.head _),rfl,?_⟩);conv=>whnf)
        exact ⟨_,_,Turn.perm (List.perm_middle (l₁:=[_,_,_,_])).symm,_,(by omega),i+1,q,sb,n1,n2,_,[(q',.tok)],rfl,rfl,rfl,by omega,.inr ⟨q',by rw [hts,hn];rfl,rfl⟩⟩
       ·conv=>whnf
        repeat (refine QCall.k0 (hu) ?_;conv=>whnf)
        refine cF rfl ?_
        conv=>whnf
        repeat ((first|refine ⟨gP_of ⟨by omega,by omega⟩,?_⟩|(refine ⟨(by rw [List.length_append,List.length_singleton];unfold AMAX;omega),fun q'=>⟨_,.there (.there (.there (.there (.here _)))),?_⟩⟩)|(refine ⟨_,_,.tail _ (.head _),rfl,?_⟩)|(refine ⟨_,_,.there (.here _),leOK,?_⟩));conv=>whnf)
        exact ⟨_,_,Turn.refl _ _,_,(by omega),i+1,q,sb,n1,n2,_,[(q',.tok)],rfl,rfl,rfl,by omega,.inr ⟨q',by rw [hts,List.map_append];rfl,rfl⟩⟩
      ·have hie:i=H.list.signs.length:=by omega
       subst hie
       rw [List.take_of_length_le (by rw [rowsM_len];exact Nat.le_refl _)] at ho
       conv=>whnf
       skip
       refine .inr ⟨by rw [hbe];exact h1,sb,n1,n2,.sl 1 (some q) (ints (bnds (partsM H.lex f) 0)),[(q,.tok)],uv,uh,rfl,.inr ⟨q,rfl,rfl⟩,ho,?_⟩
       refine (List.Perm.trans (List.perm_append_comm (l₁:=[(q,Ob.tok)]) (l₂:=(sb,_)::(n2,.map [])::(n1,.map [])::uh)) ?_)
       refine List.Perm.cons _ ((List.Perm.swap _ _ _).trans (List.Perm.cons _ (List.Perm.cons _ ?_)))
       exact List.perm_append_comm
 have key2:ACalls Tryz.prog 53 [.agg (encHou H),.agg (encHab B),.agg (encFrm f)] []
   (fun v h'=>(begErr H B f≠0∧v=.tup [.nilP,.int .i64 (begErr H B f)]∧h'=[])∨(begErr H B f=0∧∃ sb nb cb bv bh uv uh,v=.tup [.optr sb 0,.int .i64 0]∧Out 1 (fun n=>[AV.int .i64 n]) (bnds (partsM H.lex f) 0) bv bh∧Out 1 encUses (rowsM H) uv uh ∧
     h'=(sb,.vec (begC H B f (sndM H.lex f) bv uv (wgtM H.lex f) (envM H B f).mis nb cb))::(nb,mapS [])::(cb,mapC [])::(bh++uh))):=by
  refine ACalls.post key ?_
  rintro v h1 (⟨h,rfl⟩|⟨h,sb,nb,cb,bv,bh,uv,uh,rfl,ho1,ho2,hp⟩)
  ·exact ⟨_,_,.inl ⟨h,rfl,rfl⟩,VLe.refl _,fun k o hm=>(by cases hm),fun _=>(by simp [keys])⟩
  ·exact ⟨_,_,.inr ⟨h,sb,nb,cb,bv,bh,uv,uh,rfl,ho1,ho2,rfl⟩,VLe.refl _,fun k o hm=>hp.mem_iff.2 hm,fun hn=>by unfold keys at hn ⊢;exact ((hp.map _).nodup_iff).1 hn⟩
 refine ACalls.post (R:=fun v h'=>(begErr H B f≠0∧v=.tup [.nilP,.int .i64 (begErr H B f)]∧h'=[])∨(begErr H B f=0∧∃ nb cb bv bh uv uh,v=.tup [.iptr (begC H B f (sndM H.lex f) bv uv (wgtM H.lex f) (envM H B f).mis nb cb),.int .i64 0]∧Out 1 (fun n=>[AV.int .i64 n]) (bnds (partsM H.lex f) 0) bv bh∧Out 1 encUses (rowsM H) uv uh ∧
    h'=(nb,mapS [])::(cb,mapC [])::(bh++uh))) (ACalls.frzOr key2 ?_) ?_
 ·rintro v h1 (⟨h,rfl,rfl⟩|⟨h,sb,nb,cb,bv,bh,uv,uh,rfl,ho1,ho2,rfl⟩)
  ·exact .inl (.inl ⟨h,rfl,rfl⟩)
  ·exact .inr ⟨sb,_,_,_,_,.here _,FzH.refl _,.tup (.cons (.ptr rfl) (.cons (.refl _) .nil)),.inr ⟨h,nb,cb,bv,bh,uv,uh,rfl,ho1,ho2,rfl⟩⟩
 ·rintro v h1 (⟨h,rfl,rfl⟩|⟨h,nb,cb,bv,bh,uv,uh,rfl,ho1,ho2,rfl⟩)
  ·exact ⟨_,_,.inl ⟨h,rfl,rfl⟩,VLe.refl _,fun k o hm=>hm,fun hn=>hn⟩
  ·refine ⟨_,_,.inr ⟨h,nb,cb,rfl,rfl⟩,VLe.tup (.cons (VLe.iptr ?_) (.cons (VLe.refl _) .nil)),fun k o hm=>?_,fun hn=>?_⟩
   ·exact VsLe_app (VsLe.refl _) (VsLe_app (VsLe.refl _) (VsLe_app (VsLe.refl _) (.cons (VLe.refl _) (.cons (ho1.le (by decide)) (.cons (VLe.refl _) (.cons (VLe.refl _) (.cons (ho2.le (by decide)) (.cons (VLe.refl _) (.cons (VLe.refl _) .nil)))))))))
   ·rcases List.mem_cons.1 hm with h|h
    ·rw [h];exact List.mem_cons_self
    ·rcases List.mem_cons.1 h with h|h
     ·rw [h];exact List.mem_cons_of_mem _ List.mem_cons_self
     ·cases h
   ·unfold keys at hn ⊢
    have h2:=(List.nodup_append.1 (show ([nb,cb]++(bh++uh).map (fun p:Nat × Ob=>p.1)).Nodup from hn)).1
    exact h2
end Go.Abs.Wall.Spl
namespace Go.Abs.Wall.Spl
open Go Go.Abs Go.Proofs Go.Abs.Wall
open Go.Abs.Wall.Lst hiding encWy wyCmp wyCmp_lt wayCompare fndW encWy_len idxW_iff binNil binW insNilW over224 InsR insC OpenR insW_acalls ndC putW NodeS NodeH getV GetC recCall putCall getStep getAll
end Go.Abs.Wall.Spl
