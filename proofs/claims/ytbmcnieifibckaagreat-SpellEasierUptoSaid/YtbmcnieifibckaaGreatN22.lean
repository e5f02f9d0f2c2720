/- What is proved: small laws for the walks of this seat, and contracts of its functions. No condition but those each theorem names. -/
import Derived.Test.YtbmcnieifibckaaGreatN21
import Derived.Test.YtbmcnieifibckaaGreatN15
set_option maxRecDepth 100000
set_option maxHeartbeats 2000000
set_option linter.unusedVariables false
set_option linter.unusedSimpArgs false
namespace Go.Abs.Wall.Spl
open Go Go.Abs Go.Proofs Go.Abs.Wall
open Go.Abs.Wall.Lst hiding encWy wyCmp wyCmp_lt wayCompare fndW encWy_len idxW_iff binNil binW insNilW over224 InsR insC OpenR insW_acalls ndC putW NodeS NodeH getV GetC recCall putCall getStep getAll
def encStaV (x:Sta):AV:=.agg (encSta x)
def encPk (k:Nat):AV:=.optr k 0
def mapS (es:Ents):Ob:=.map (encA encStaV encPk es)
theorem heqSta (a b:Sta):eqV Tryz.prog 114 (encStaV a) (encStaV b)=some (decide (a=b)):=by
 obtain ⟨a1,a2,a3,a4⟩:=a
 obtain ⟨b1,b2,b3,b4⟩:=b
 have h:eqV Tryz.prog 114 (encStaV ⟨a1,a2,a3,a4⟩) (encStaV ⟨b1,b2,b3,b4⟩)=some (decide (a1=b1)&&(decide (a2=b2)&&(decide (a3=b3)&&(decide (a4=b4)&&true)))):=by
  first|rfl|kernel_rfl
 rw [h]
 congr 1
 rw [Bool.eq_iff_iff]
 simp
theorem plainSta:plainT Tryz.prog 114=true:=by decide +kernel
theorem lkS {es:Ents} {x:Sta} {b:Nat} {h:Heap} {g:G} {K:AV→Prop} (hm:(b,mapS es)∈h)
  (hk:K (okTup true (((lookA x es).map encPk).getD .nilP) (lookA x es).isSome)) :
  ∃ es v f,(b,Ob.map es)∈h∧gP g (keyFits Tryz.prog 114 (encStaV x)∧mlook Tryz.prog 114 (encStaV x) es .nilP=some (v,f))∧K (okTup true v f):=
 ⟨_,_,_,hm,gP_of ⟨keyFits_of heqSta plainSta x,mlook_encA heqSta x es _⟩,hk⟩
def zeroWy:List AV:=[.int .i64 0,.int .i64 0,.int .i64 0,.int .i64 0]
def getV (E:Env) (x:Sta) (rank:Nat):AV:=match (wayS E x)[rank]? with
 | some w=>.tup [.agg (encWy w),.bool true]
 | none=>.tup [.agg zeroWy,.bool false]
def GetC (E:Env) (x:Sta):Prop:=∀ (nb:Nat) (cv:AV) (es:Ents) (c:Nat) (hp:Heap) (rank:Nat),Nds E c x.n es hp→rank≤64 →
 ACalls Tryz.prog 105 [.iptr (seaC E (.omap nb) cv),.agg (encSta x),.int .i64 rank] ((nb,mapS es)::hp)
  (fun v h'=>v=getV E x rank∧∃ ext hp',(∀ p∈ext,x.n≤p.1.n)∧Nds E c x.n (es++ext) hp'∧(lookA x (es++ext)).isSome=true∧h'=(nb,mapS (es++ext))::hp')
def NodeC (E:Env) (x:Sta):Prop:=∀ (nb:Nat) (cv:AV) (es:Ents) (c:Nat) (hp:Heap),Nds E c x.n es hp →
 ACalls Tryz.prog 106 [.iptr (seaC E (.omap nb) cv),.agg (encSta x)] ((nb,mapS es)::hp)
  (fun v h'=>∃ k ext hp',v=.optr k 0∧lookA x (es++ext)=some k∧(∀ p∈ext,x.n≤p.1.n)∧Nds E c x.n (es++ext) hp'∧h'=(nb,mapS (es++ext))::hp')
theorem permF {A B D:Heap} {m:Nat × Ob}:(m::D++(A++B)).Perm (A++m::(B++D)):=by
 refine List.Perm.trans ?_ List.perm_middle.symm
 refine List.Perm.cons _ ?_
 rw [← List.append_assoc]
 exact List.perm_append_comm
theorem _root_.Go.Abs.Wall.Spl.Nds.more {E:Env}:∀ {c:Nat} {d:Int} {es:Ents} {hp:Heap} {ext:Ents},Nds E c d es hp→(∀ p∈ext,p.1.n<d)→Nds E c d (es++ext) hp
 | _,_,_,_,ext,.done h,_=>.done h
 | _,_,_,_,ext,.step hA hB,he=>.step (hA.more fun p hp=>by have:=he p hp;omega) (hB.more fun p hp=>by have:=he p hp;omega)
theorem recCall {E:Env} {y:Sta} (IH:GetC E y) {nb:Nat} {cv:AV} {es:Ents} {c:Nat} {hB:Heap} {rank:Nat} (hn:Nds E c y.n es hB) (hr:rank≤64) (A B:Heap) :
  ACalls Tryz.prog 105 [.iptr (seaC E (.omap nb) cv),.agg (encSta y),.int .i64 rank] (A++(nb,mapS es)::(B++hB))
   (fun v H'=>v=getV E y rank∧∃ ext hB',(∀ p∈ext,y.n≤p.1.n)∧Nds E c y.n (es++ext) hB'∧H'=A++(nb,mapS (es++ext))::(B++hB')):=by
 refine ACalls.re (IH nb cv es c hB rank hn hr) (h2:=A++B) permF ?_
 rintro v h1 ⟨hv,ext,hp',he,hn',_,rfl⟩
 exact ⟨_,permF,hv,ext,hp',he,hn',rfl⟩
theorem putCall {x:Wy} {Q:List Wy} (hs:Q.Pairwise wlt) {nk:Nat} {mv fv:AV} {due:Bool} {ov:AV} {oh:Heap} (ho:OpenR Q ov oh) (hl:Q.length≤65536) (A B C:Heap) :
  ACalls Tryz.prog 164 [.optr nk 2,.agg (encWy x)] (A++(nk,.vec (ndC mv fv ov due))::(B++(oh++C)))
   (fun v H'=>v=.tup []∧∃ ov' oh',OpenR (insW x Q) ov' oh'∧H'=A++(nk,.vec (ndC mv fv ov' due))::(B++(oh'++C))):=by
 have key:∀ (o:Nat × Ob) (oh:Heap),(o::oh++(A++(B++C))).Perm (A++o::(B++(oh++C))):=by
  intro o oh
  refine List.Perm.trans ?_ List.perm_middle.symm
  exact List.Perm.cons _ permM
 refine ACalls.re (putW x Q hs nk mv fv due ov oh ho hl) (key _ _) ?_
 rintro v h3 ⟨rfl,ov',oh',ho',rfl⟩
 exact ⟨_,key _ _,rfl,ov',oh',ho',rfl⟩
def c106:Cfg:=⟨[0,1,3,4,5,6,7,8,9,10,11,12,13,23,43,54,55,56,57,68],[30],[11,12],[],[(1,[0,1,2,3,4,5,6,7,8,9,10],[]),(5,[0,1,2,3,4,5,6],[]),(14,[0,1,2,3,4,5,6,7,8,9,10,11,12,13,14,15,16],[])],[85]⟩
theorem nodeStep (E:Env) (hE:EOK E) (x:Sta) (hx:StOK E x) (IH:∀ y,StOK E y→y.n=x.n+1→GetC E y):NodeC E x:=by
 intro nb cv es c hp hN
 have hxn:=hx.n
 cases hlk:lookA x es with
 | some k=>
   refine ACalls.post (R:=fun v h'=>v=.optr k 0∧h'=(nb,mapS es)::hp) ?_ ?_
   ·refine fcalls (F:=Tryz.f106) c106 rfl rfl rfl mixed rfl fun X=>?_
    conv=>whnf
    repeat ((first|(refine lkS (.head _) ?_)|refine And.intro (by show drawOK (opsAt Tryz.f106 _) _=true;decide +kernel) ?_);conv=>whnf)
    rw [hlk]
    refine cT rfl ?_
    conv=>whnf
    skip
    exact ⟨rfl,rfl⟩
   ·rintro v h1 ⟨rfl,rfl⟩
    exact ⟨_,_,⟨k,[],hp,rfl,by rw [List.append_nil];exact hlk,by simp,by rw [List.append_nil];exact hN,by rw [List.append_nil]⟩,VLe.refl _,fun _ _ h=>h,fun h=>h⟩
 | none=>
   cases hN with
   | done hd=>omega
   | step hA hB=>
   rename_i c hAh hBh
   have hmo:=fun m (hm:m∈movesM E x)=>moves_ok hE hx hm
   have hml:=moves_len (x:=x) hE
   have hlb:=lastM_bound hE x
   have hmv:=spMoves E (.omap nb) cv x hE hx
   have hla:=spLast E (.omap nb) cv x hE
   refine ACalls.post (R:=fun v h'=>∃ k ext hp',v=.optr k 0∧lookA x (es++ext)=some k∧(∀ p∈ext,x.n≤p.1.n)∧Nds E (c+1) x.n (es++ext) hp'∧h'.Perm ((nb,mapS (es++ext))::hp')) ?_ ?_
   ·refine fcalls (F:=Tryz.f106) c106 rfl rfl rfl mixed rfl fun X=>?_
    conv=>whnf
    repeat ((first|(refine lkS (.head _) ?_)|refine And.intro (by show drawOK (opsAt Tryz.f106 _) _=true;decide +kernel) ?_);conv=>whnf)
    rw [hlk]
    refine cF rfl ?_
    conv=>whnf
    repeat ((first|refine QCall.k0 (hmv) ?_|(intro (nk:Nat))|(refine upA (ek:=encStaV) (ev:=encPk) (k:=x) (v:=nk) heqSta plainSta (.there (.here _)) ?_)|refine QCall.k0 (hla) ?_|refine And.intro (by show drawOK (opsAt Tryz.f106 _) _=true;decide +kernel) ?_);conv=>whnf)
    rw [setA_new hlk]
    have hlxk:lookA x (es++[(x,nk)])=some nk:=by rw [lookA_app,hlk];simp [lookA]
    have hBx:Nds E c (x.n+1) (es++[(x,nk)]) hBh:=hB.more (fun p hp=>by rw [List.mem_singleton] at hp;rw [hp];show x.n<x.n+1;omega)
    refine ⟨fun hq=>?_,fun hq=>?_⟩
    ·have hll:lastL E x=[(lastM E x).1*16]:=by unfold lastL;rw [if_pos hq]
     have hput:=putCall (x:=⟨(lastM E x).1*16,0,0⟩) (Q:=[]) .nil (nk:=nk) (mv:=mvV E x) (fv:=.nilS) (due:=false) (ov:=.nilS) (oh:=[]) (.inl ⟨rfl,rfl,rfl⟩) (by decide) [] [(nb,mapS (es++[(x,nk)]))] (hAh++hBh)
     rw [show encWy ⟨(lastM E x).1*16,0,0⟩=[.int .i64 (lastM E x).1,.int .i64 0,.int .i64 (-1),.int .i64 0] by
      unfold encWy
      rw [show (lastM E x).1*16 / 16=(lastM E x).1 by omega,show (lastM E x).1*16 % 16=0 by omega]
      rfl] at hput
     have hbq:=begQ_put (begQ_zero (clsX E x)) (clsX_zero E x) (c:=(lastM E x).1*16) (by rw [hll];rfl)
     conv=>whnf
     repeat ((refine ACalls.mono ?_ hput);conv=>whnf)
     rintro v h' ⟨rfl,ov0,oh0,ho0,rfl⟩
     obtain ⟨Q0,hQ0⟩:∃ Q0,Q0=insW ⟨(lastM E x).1*16,0,0⟩ []:=⟨_,rfl⟩
     have hQl:Q0.length≤1:=by rw [hQ0,insW_length];exact Nat.le_refl _
     rw [← hQ0] at hbq ho0
     conv=>whnf
     repeat (refine ⟨_,_,.head _,rfl,?_⟩;conv=>whnf)
     refine tloop rfl mixed [0,7,54,55,56] [] (fun m r h=>∃ (i:Nat) (Q:List Wy) (ov:AV) (oh:Heap) (ext:Ents) (hC:Heap),r=[(0,[],.iptr (seaC E (.omap nb) cv)),(7,[],.optr nk 0),(54,[],mvV E x),(55,[],.int .i64 ((movesM E x).map encMv).length),(56,[],.int .i64 i)]∧h=(nk,.vec (ndC (mvV E x) .nilS ov false))::(nb,mapS (es++(x,nk)::ext))::(oh++(hAh++hC))∧m=(movesM E x).length - i∧i≤(movesM E x).length∧begQ (clsX E x) (i+1) Q∧OpenR Q ov oh∧Q.length≤i+1∧(∀ p∈ext,x.n+1≤p.1.n)∧Nds E c (x.n+1) (es++(x,nk)::ext) hC) ?_ ?_
     ·conv=>whnf
      first
       | exact ⟨_,_,Turn.refl _ _,_,0,Q0,ov0,oh0,[],hBh,rfl,rfl,rfl,by omega,hbq,ho0,by omega,(fun p hp=>by cases hp),hBx⟩
       | exact ⟨_,_,Turn.refl _ _,_,0,[],.nilS,[],[],hBh,rfl,rfl,rfl,by omega,hbq,ho0,by omega,(fun p hp=>by cases hp),hBx⟩
     ·rintro m r h' ⟨i,Q,ov,oh,ext,hC,rfl,rfl,rfl,hi,hbg,ho,hQ,hext,hN⟩
      conv=>whnf
      refine ⟨fun hi2=>?_,fun hi2=>?_⟩<;>simp at hi2
      ·obtain ⟨m,hm⟩:=get_lt hi2
       have hmk:=hmo m (List.mem_of_getElem? hm)
       have hnx:=hmk.next
       have hmc:=hmk.cost
       have hrc:=recCall (IH m.to hmk.to hnx) (nb:=nb) (cv:=cv) (es:=es++(x,nk)::ext) (c:=c) (hB:=hC) (rank:=0) (by rw [hnx];exact hN) (by decide) [(nk,.vec (ndC (mvV E x) .nilS ov false))] (oh++hAh)
       simp only [List.append_assoc] at hrc
       conv=>whnf
       repeat ((first|refine ix (by assumption) ?_|(intro (b9:Nat))|(refine ACalls.mono ?_ hrc)|refine ⟨_,_,Rem.here _,⟨Nat.le_of_ble_eq_true rfl,rfl⟩,?_⟩);conv=>whnf)
       rintro v h' ⟨rfl,ext2,hC2,he2,hN2,rfl⟩
       rw [hnx] at hN2
       have hap:es++(x,nk)::(ext++ext2)=es++(x,nk)::ext++ext2:=by rw [List.append_assoc];rfl
       have hext2:∀ p∈ext++ext2,x.n+1≤p.1.n:=by
        intro p hp
        rcases List.mem_append.1 hp with h|h
        ·exact hext p h
        ·have:=he2 p h
         omega
       have hcl:=clsX_get hm
       cases hw:(wayS E m.to)[0]? with
       | none=>
         have hgv:getV E m.to 0=.tup [.agg zeroWy,.bool false]:=by unfold getV;rw [hw]
         have hbg2:=begQ_skip hbg hcl (by rw [List.getElem?_map,hw];rfl)
         rw [hgv]
         conv=>whnf
         repeat ((first|refine ⟨_,_,Rem.here _,⟨Nat.le_of_ble_eq_true rfl,rfl⟩,?_⟩|intro (nb:Nat));conv=>whnf)
         refine cF rfl ?_
         conv=>whnf
         repeat (refine ⟨gP_of ⟨by omega,by omega⟩,?_⟩;conv=>whnf)
         refine ⟨_,_,Turn.refl _ _,_,(by omega),i+1,Q,ov,oh,ext++ext2,hC2,rfl,?_,rfl,by omega,hbg2,ho,by omega,hext2,by rw [hap];simpa using hN2⟩
         rw [hap]
         simp
       | some w=>
         have hgv:getV E m.to 0=.tup [.agg (encWy w),.bool true]:=by unfold getV;rw [hw]
         have hwb:=way_bound hE _ m.to hmk.to rfl w (List.mem_of_getElem? hw)
         have hd:(12 - m.to.n).toNat≤11:=by omega
         have hbg2:=begQ_put hbg hcl (c:=w.cost+(m.cost*16+1)) (by rw [List.getElem?_map,hw];rfl)
         have hput:=putCall (x:=⟨w.cost+(m.cost*16+1),i+1,0⟩) hbg.1 (nk:=nk) (mv:=mvV E x) (fv:=.nilS) (due:=false) ho (by omega) [] [(nb,mapS (es++(x,nk)::(ext++ext2)))] (hAh++hC2)
         rw [show encWy ⟨w.cost+(m.cost*16+1),i+1,0⟩=[.int .i64 (w.cost / 16+m.cost),.int .i64 (w.cost % 16+1),.int .i64 i,.int .i64 0] by
          unfold encWy
          rw [show (w.cost+(m.cost*16+1)) / 16=w.cost / 16+m.cost by omega,show (w.cost+(m.cost*16+1)) % 16=w.cost % 16+1 by omega,show ((i+1:Nat):Int) - 1=(i:Int) by omega]
          rfl] at hput
         rw [hgv]
         conv=>whnf
         repeat ((first|refine ⟨_,_,Rem.here _,⟨Nat.le_of_ble_eq_true rfl,rfl⟩,?_⟩|intro (nb:Nat));conv=>whnf)
         refine cT rfl ?_
         conv=>whnf
         repeat ((first|refine ⟨gP_of ⟨by omega,by omega⟩,?_⟩|(refine ACalls.mono ?_ hput)|refine And.intro (by show drawOK (opsAt Tryz.f106 _) _=true;decide +kernel) ?_);conv=>whnf)
         rintro v h' ⟨rfl,ov2,oh2,ho2,rfl⟩
         conv=>whnf
         repeat (refine ⟨gP_of ⟨by omega,by omega⟩,?_⟩;conv=>whnf)
         refine ⟨_,_,Turn.refl _ _,_,(by omega),i+1,_,ov2,oh2,ext++ext2,hC2,rfl,?_,rfl,by omega,hbg2,ho2,by rw [insW_length];omega,hext2,by rw [hap];simpa using hN2⟩
         rw [hap]
         simp
      ·have hi3:i=(movesM E x).length:=by omega
       subst hi3
       rw [← clsX_len] at hbg
       have hok:=begQ_end hbg
       have hnx:NodeX E x nk ((nk,.vec (ndC (mvV E x) .nilS ov false))::oh):=⟨0,false,Q,.nilS,[],ov,oh,⟨hok,by simp;omega,by omega⟩,.inl ⟨rfl,rfl,rfl⟩,ho,rfl⟩
       conv=>whnf
       skip
       refine ⟨nk,(x,nk)::ext,(hAh++((nk,.vec (ndC (mvV E x) .nilS ov false))::oh))++hC,rfl,?_,?_,?_,?_⟩
       ·rw [lookA_app,hlk]
        simp [lookA]
       ·intro p hp
        rcases List.mem_cons.1 hp with h|h
        ·rw [h];exact Int.le_refl _
        ·have:=hext p h
         omega
       ·refine .step ?_ hN
        have h1:=(hA.snoc (k:=nk) rfl hnx).more (ext:=ext) (fun p hp=>by have:=hext p hp;omega)
        rw [List.append_assoc] at h1
        exact h1
       ·refine List.Perm.trans (List.Perm.swap _ _ _) (List.Perm.cons _ ?_)
        have h1:((nk,Ob.vec (ndC (mvV E x) .nilS ov false))::oh++(hAh++hC)).Perm (hAh++((nk,Ob.vec (ndC (mvV E x) .nilS ov false))::oh++hC)):=List.perm_append_comm_assoc _ _ _
        rw [← List.append_assoc hAh] at h1
        exact h1
    ·have hll:lastL E x=[]:=by unfold lastL;rw [if_neg (by rw [hq];decide)]
     have hbq:=begQ_skip (begQ_zero (clsX E x)) (clsX_zero E x) (by rw [hll];rfl)
     have ho0:OpenR [] .nilS []:=.inl ⟨rfl,rfl,rfl⟩
     have hQl:([]:List Wy).length≤1:=by simp
     conv=>whnf
     repeat (refine ⟨_,_,.head _,rfl,?_⟩;conv=>whnf)
     refine tloop rfl mixed [0,7,54,55,56] [] (fun m r h=>∃ (i:Nat) (Q:List Wy) (ov:AV) (oh:Heap) (ext:Ents) (hC:Heap),r=[(0,[],.iptr (seaC E (.omap nb) cv)),(7,[],.optr nk 0),(54,[],mvV E x),(55,[],.int .i64 ((movesM E x).map encMv).length),(56,[],.int .i64 i)]∧h=(nk,.vec (ndC (mvV E x) .nilS ov false))::(nb,mapS (es++(x,nk)::ext))::(oh++(hAh++hC))∧m=(movesM E x).length - i∧i≤(movesM E x).length∧begQ (clsX E x) (i+1) Q∧OpenR Q ov oh∧Q.length≤i+1∧(∀ p∈ext,x.n+1≤p.1.n)∧Nds E c (x.n+1) (es++(x,nk)::ext) hC) ?_ ?_
     ·conv=>whnf
      first
       | exact ⟨_,_,Turn.refl _ _,_,0,Q0,ov0,oh0,[],hBh,rfl,rfl,rfl,by omega,hbq,ho0,by omega,(fun p hp=>by cases hp),hBx⟩
       | exact ⟨_,_,Turn.refl _ _,_,0,[],.nilS,[],[],hBh,rfl,rfl,rfl,by omega,hbq,ho0,by omega,(fun p hp=>by cases hp),hBx⟩
     ·rintro m r h' ⟨i,Q,ov,oh,ext,hC,rfl,rfl,rfl,hi,hbg,ho,hQ,hext,hN⟩
      conv=>whnf
      refine ⟨fun hi2=>?_,fun hi2=>?_⟩<;>simp at hi2
      ·obtain ⟨m,hm⟩:=get_lt hi2
       have hmk:=hmo m (List.mem_of_getElem? hm)
       have hnx:=hmk.next
       have hmc:=hmk.cost
       have hrc:=recCall (IH m.to hmk.to hnx) (nb:=nb) (cv:=cv) (es:=es++(x,nk)::ext) (c:=c) (hB:=hC) (rank:=0) (by rw [hnx];exact hN) (by decide) [(nk,.vec (ndC (mvV E x) .nilS ov false))] (oh++hAh)
       simp only [List.append_assoc] at hrc
       conv=>whnf
       repeat ((first|refine ix (by assumption) ?_|(intro (b9:Nat))|(refine ACalls.mono ?_ hrc)|refine ⟨_,_,Rem.here _,⟨Nat.le_of_ble_eq_true rfl,rfl⟩,?_⟩);conv=>whnf)
       rintro v h' ⟨rfl,ext2,hC2,he2,hN2,rfl⟩
       rw [hnx] at hN2
       have hap:es++(x,nk)::(ext++ext2)=es++(x,nk)::ext++ext2:=by rw [List.append_assoc];rfl
       have hext2:∀ p∈ext++ext2,x.n+1≤p.1.n:=by
        intro p hp
        rcases List.mem_append.1 hp with h|h
        ·exact hext p h
        ·have:=he2 p h
         omega
       have hcl:=clsX_get hm
       cases hw:(wayS E m.to)[0]? with
       | none=>
         have hgv:getV E m.to 0=.tup [.agg zeroWy,.bool false]:=by unfold getV;rw [hw]
         have hbg2:=begQ_skip hbg hcl (by rw [List.getElem?_map,hw];rfl)
         rw [hgv]
         conv=>whnf
         repeat ((first|refine ⟨_,_,Rem.here _,⟨Nat.le_of_ble_eq_true rfl,rfl⟩,?_⟩|intro (nb:Nat));conv=>whnf)
         refine cF rfl ?_
         conv=>whnf
         repeat (refine ⟨gP_of ⟨by omega,by omega⟩,?_⟩;conv=>whnf)
         refine ⟨_,_,Turn.refl _ _,_,(by omega),i+1,Q,ov,oh,ext++ext2,hC2,rfl,?_,rfl,by omega,hbg2,ho,by omega,hext2,by rw [hap];simpa using hN2⟩
         rw [hap]
         simp
       | some w=>
         have hgv:getV E m.to 0=.tup [.agg (encWy w),.bool true]:=by unfold getV;rw [hw]
         have hwb:=way_bound hE _ m.to hmk.to rfl w (List.mem_of_getElem? hw)
         have hd:(12 - m.to.n).toNat≤11:=by omega
         have hbg2:=begQ_put hbg hcl (c:=w.cost+(m.cost*16+1)) (by rw [List.getElem?_map,hw];rfl)
         have hput:=putCall (x:=⟨w.cost+(m.cost*16+1),i+1,0⟩) hbg.1 (nk:=nk) (mv:=mvV E x) (fv:=.nilS) (due:=false) ho (by omega) [] [(nb,mapS (es++(x,nk)::(ext++ext2)))] (hAh++hC2)
         rw [show encWy ⟨w.cost+(m.cost*16+1),i+1,0⟩=[.int .i64 (w.cost / 16+m.cost),.int .i64 (w.cost % 16+1),.int .i64 i,.int .i64 0] by
          unfold encWy
          rw [show (w.cost+(m.cost*16+1)) / 16=w.cost / 16+m.cost by omega,show (w.cost+(m.cost*16+1)) % 16=w.cost % 16+1 by omega,show ((i+1:Nat):Int) - 1=(i:Int) by omega]
          rfl] at hput
         rw [hgv]
         conv=>whnf
         repeat ((first|refine ⟨_,_,Rem.here _,⟨Nat.le_of_ble_eq_true rfl,rfl⟩,?_⟩|intro (nb:Nat));conv=>whnf)
         refine cT rfl ?_
         conv=>whnf
         repeat ((first|refine ⟨gP_of ⟨by omega,by omega⟩,?_⟩|(refine ACalls.mono ?_ hput)|refine And.intro (by show drawOK (opsAt Tryz.f106 _) _=true;decide +kernel) ?_);conv=>whnf)
         rintro v h' ⟨rfl,ov2,oh2,ho2,rfl⟩
         conv=>whnf
         repeat (refine ⟨gP_of ⟨by omega,by omega⟩,?_⟩;conv=>whnf)
         refine ⟨_,_,Turn.refl _ _,_,(by omega),i+1,_,ov2,oh2,ext++ext2,hC2,rfl,?_,rfl,by omega,hbg2,ho2,by rw [insW_length];omega,hext2,by rw [hap];simpa using hN2⟩
         rw [hap]
         simp
      ·have hi3:i=(movesM E x).length:=by omega
       subst hi3
       rw [← clsX_len] at hbg
       have hok:=begQ_end hbg
       have hnx:NodeX E x nk ((nk,.vec (ndC (mvV E x) .nilS ov false))::oh):=⟨0,false,Q,.nilS,[],ov,oh,⟨hok,by simp;omega,by omega⟩,.inl ⟨rfl,rfl,rfl⟩,ho,rfl⟩
       conv=>whnf
       skip
       refine ⟨nk,(x,nk)::ext,(hAh++((nk,.vec (ndC (mvV E x) .nilS ov false))::oh))++hC,rfl,?_,?_,?_,?_⟩
       ·rw [lookA_app,hlk]
        simp [lookA]
       ·intro p hp
        rcases List.mem_cons.1 hp with h|h
        ·rw [h];exact Int.le_refl _
        ·have:=hext p h
         omega
       ·refine .step ?_ hN
        have h1:=(hA.snoc (k:=nk) rfl hnx).more (ext:=ext) (fun p hp=>by have:=hext p hp;omega)
        rw [List.append_assoc] at h1
        exact h1
       ·refine List.Perm.trans (List.Perm.swap _ _ _) (List.Perm.cons _ ?_)
        have h1:((nk,Ob.vec (ndC (mvV E x) .nilS ov false))::oh++(hAh++hC)).Perm (hAh++((nk,Ob.vec (ndC (mvV E x) .nilS ov false))::oh++hC)):=List.perm_append_comm_assoc _ _ _
        rw [← List.append_assoc hAh] at h1
        exact h1
   ·rintro v h1 ⟨k,ext,hp',rfl,h2,h3,h4,hpm⟩
    exact ⟨_,_,⟨k,ext,hp',rfl,h2,h3,h4,rfl⟩,VLe.refl _,fun _ _ h=>hpm.mem_iff.2 h,fun h=>by unfold keys at h ⊢;exact ((hpm.map _).nodup_iff).1 h⟩
end Go.Abs.Wall.Spl
namespace Go.Abs.Wall.Spl
open Go Go.Abs Go.Proofs Go.Abs.Wall
open Go.Abs.Wall.Lst hiding encWy wyCmp wyCmp_lt wayCompare fndW encWy_len idxW_iff binNil binW insNilW over224 InsR insC OpenR insW_acalls ndC putW NodeS NodeH getV GetC recCall putCall getStep getAll
theorem nodeCall {E:Env} {x:Sta} (HN:NodeC E x) {nb:Nat} {cv:AV} {es:Ents} {c:Nat} {hB:Heap} (hn:Nds E c x.n es hB) (A:Heap) :
  ACalls Tryz.prog 106 [.iptr (seaC E (.omap nb) cv),.agg (encSta x)] (A++(nb,mapS es)::hB)
   (fun v H'=>∃ k ext hp',v=.optr k 0∧lookA x (es++ext)=some k∧(∀ p∈ext,x.n≤p.1.n)∧Nds E c x.n (es++ext) hp'∧H'=A++(nb,mapS (es++ext))::hp'):=by
 have permA:∀ {m:Nat × Ob} {D:Heap},(m::D++A).Perm (A++m::D):=by
  intro m D
  refine List.Perm.trans ?_ List.perm_middle.symm
  exact List.Perm.cons _ List.perm_append_comm
 refine ACalls.re (HN nb cv es c hB hn) (h2:=A) permA ?_
 rintro v h1 ⟨k,ext,hp',h2,h3,h4,h5,rfl⟩
 exact ⟨_,permA,k,ext,hp',h2,h3,h4,h5,rfl⟩
theorem encW_eq (a b:Int) (e r:Nat) (ha:0≤a) (hr:a % 16+1<16):encWy ⟨a+(b*16+1),e,r⟩=[.int .i64 (a / 16+b),.int .i64 (a % 16+1),.int .i64 (e - 1),.int .i64 r]:=by
 unfold encWy
 rw [show (a+(b*16+1)) / 16=a / 16+b by omega,show (a+(b*16+1)) % 16=a % 16+1 by omega]
theorem permK {a b m:Nat × Ob} {X F O Y C:Heap}:(a::b::(X++(m::(F++O)++Y)++C)).Perm (a::b::m::(F++(O++(X++(Y++C))))):=by
 refine List.Perm.cons _ (List.Perm.cons _ ?_)
 have:=List.perm_append_comm_assoc X (m::(F++O)) (Y++C)
 simpa using this
def c105:Cfg:=⟨[0,1,2,4,6,7,8,9,10,11,12,22,26,44,63,91],[],[9,10,11],[],[(5,[0,1,2,3,4,5,6,7,8,9,10,11,12,13],[9]),(7,[0,1,2,3,4,5,6,7,8,9],[10]),(10,[0,1,2,3,4,5,6,7,8,9,10,11,12,13,14,15,16,17,18,19,20],[]),(13,[0,1,2,3,4,5,6,7,8,9,10,11,12,13,14,15,16],[])],[60,84]⟩
set_option maxHeartbeats 8000000 in
theorem getStep (E:Env) (hE:EOK E) (x:Sta) (hx:StOK E x) (HN:NodeC E x) (IH:∀ y,StOK E y→y.n=x.n+1→GetC E y):GetC E x:=by
 intro tb cv es c hp rank hN hr
 have hxn:=hx.n
 have hwa:=wayS_eq hE hx
 have hmo:=fun m (hm:m∈movesM E x)=>moves_ok hE hx hm
 have hml:=moves_len (x:=x) hE
 refine ACalls.post (R:=fun v h'=>v=getV E x rank∧∃ ext hp',(∀ p∈ext,x.n≤p.1.n)∧Nds E c x.n (es++ext) hp'∧(lookA x (es++ext)).isSome=true∧∃ rb o,h'.Perm ((rb,o)::(tb,mapS (es++ext))::hp')) ?_ ?_
 ·refine ACalls.mono (R:=fun (v:AV) (h':Heap)=>∃ ext0,(∀ p∈ext0,x.n≤p.1.n)∧v=getV E x rank∧∃ ext hp',(∀ p∈ext,x.n+1≤p.1.n)∧Nds E c x.n (es++ext0++ext) hp'∧(lookA x (es++ext0++ext)).isSome=true∧∃ rb o,h'.Perm ((rb,o)::(tb,mapS (es++ext0++ext))::hp')) ?_ ?_
  ·rintro v h' ⟨ext0,h0,hv,ext,hp',h1,h2,hls,rb,o,h3⟩
   refine ⟨hv,ext0++ext,hp',?_,by rw [← List.append_assoc];exact h2,by rw [← List.append_assoc];exact hls,rb,o,by rw [← List.append_assoc];exact h3⟩
   intro p hp
   rcases List.mem_append.1 hp with h|h
   ·exact h0 p h
   ·have:=h1 p h
    omega
  have hnc:=fun rb=>nodeCall HN hN (nb:=tb) (cv:=cv) [(rb,.vec zeroWy)]
  refine fcalls (F:=Tryz.f105) c105 rfl rfl rfl mixed rfl fun X=>?_
  conv=>whnf
  repeat ((first|(intro (rb:Nat))|(refine ACalls.mono ?_ (hnc _)));conv=>whnf)
  rintro v h' ⟨k,ext0,hp',rfl,hlk,hx0,hN',rfl⟩
  cases hN' with
  | done hd=>omega
  | step hA hB=>
  rename_i c hAh hBh
  obtain ⟨hX,h1,hY,rfl,hnx,hput⟩:=hA.pick rfl hlk
  obtain ⟨es1,hes1⟩:∃ e,e=es++ext0:=⟨_,rfl⟩
  rw [← hes1] at hlk hB hput
  clear hA hN
  have fin:∀ (t:Nat) (due:Bool) (Q:List Wy) (fv:AV) (fh:Heap) (ov:AV) (oh:Heap) (ext:Ents) (hC:Heap),NodeT (clsX E x) t due Q→Out 4 encWy ((mgW (clsX E x)).take t) fv fh→OpenR Q ov oh→(∀ p∈ext,x.n+1≤p.1.n)→Nds E c (x.n+1) (es1++ext) hC →
    ∃ hp',Nds E (c+1) x.n (es1++ext) hp'∧((k,Ob.vec (ndC (mvV E x) fv ov due))::(fh++(oh++(hX++(hY++hC))))).Perm hp':=by
   intro t due Q fv fh ov oh ext hC h1 h2 h3 h4 h5
   have h6:=(hput _ ⟨t,due,Q,fv,fh,ov,oh,h1,h2,h3,rfl⟩).more (ext:=ext) (fun p hp=>by have:=h4 p hp;omega)
   refine ⟨_,.step h6 h5,?_⟩
   simp only [List.append_assoc,List.cons_append]
   have:=List.perm_append_comm_assoc (((k,Ob.vec (ndC (mvV E x) fv ov due))::fh)++oh) hX (hY++hC)
   simpa using this
  have hlx:∀ ext:Ents,(lookA x (es1++ext)).isSome=true:=fun ext=>by rw [lookA_app,hlk];rfl
  obtain ⟨t0,due0,Q0,fv0,fh0,ov0,oh0,hok0,hfo0,hoo0,rfl⟩:=hnx
  conv=>whnf
  skip
  refine tloop rfl mixed [0,2,6,8] [] (fun m r h=>∃ (t:Nat) (due:Bool) (Q:List Wy) (fv:AV) (fh:Heap) (ov:AV) (oh:Heap) (ext:Ents) (hC:Heap),r=[(0,[],.iptr (seaC E (.omap tb) cv)),(2,[],.int .i64 rank),(6,[],.optr rb 0),(8,[],.optr k 0)]∧h=(rb,.vec zeroWy)::(tb,mapS (es1++ext))::(k,.vec (ndC (mvV E x) fv ov due))::(fh++(oh++(hX++(hY++hC))))∧m=66 - t∧NodeT (clsX E x) t due Q∧Out 4 encWy ((mgW (clsX E x)).take t) fv fh∧OpenR Q ov oh∧(∀ p∈ext,x.n+1≤p.1.n)∧Nds E c (x.n+1) (es1++ext) hC) ?_ ?_
  ·conv=>whnf
   refine ⟨_,_,Turn.perm permK,_,t0,due0,Q0,fv0,fh0,ov0,oh0,[],hBh,rfl,?_,rfl,hok0,hfo0,hoo0,(fun p hp=>by cases hp),by rw [List.append_nil];exact hB⟩
   rw [List.append_nil]
   simp
   rw [hes1]
  ·clear hok0 hfo0 hoo0 hB
   rintro m r h' ⟨t,due,Q,fv,fh,ov,oh,ext,hC,rfl,rfl,rfl,hok,hfo,hoo,hext,hN2⟩
   have htl:=hok.ok.le
   have hfo':=hfo
   have hlen:((mgW (clsX E x)).take t).length=t:=by rw [List.length_take];omega
   have hmlw:(((mgW (clsX E x)).take t).map encWy).length=t:=by rw [List.length_map];exact hlen
   have htk65:=hok.asked
   rcases hfo with ⟨hF,rfl,rfl⟩|⟨q,rfl,rfl⟩
   ·have ht0:t=0:=by rw [hF] at hlen;exact hlen.symm
    have hdue:due=false:=by
     cases due with
     | false=>rfl
     | true=>have:=hok.ok.pos rfl;omega
    subst hdue
    have htr:t≤rank:=by omega
    conv=>whnf
    repeat ((refine ⟨_,_,.tail _ (.tail _ (.head _)),rfl,?_⟩);conv=>whnf)
    refine cT (by simp) ?_
    conv=>whnf
    repeat ((refine ⟨_,_,.tail _ (.tail _ (.head _)),rfl,?_⟩);conv=>whnf)
    refine cF rfl ?_
    cases hQ:Q with
    | nil=>
      subst hQ
      have hgv:getV E x rank=.tup [.agg zeroWy,.bool false]:=by unfold getV;rw [hwa,mgW_over hok.ok.empty htr]
      obtain ⟨hp2,hn2,hpm⟩:=fin _ _ _ _ _ _ _ _ _ hok hfo' hoo hext hN2
      rcases hoo with ⟨_,rfl,rfl⟩|⟨ob,pr,rfl,rfl⟩
      all_goals
       conv=>whnf
       repeat ((refine ⟨_,_,.tail _ (.tail _ (.head _)),rfl,?_⟩);conv=>whnf)
       refine cT rfl ?_
       conv=>whnf
       repeat ((first|(refine ⟨_,_,.here _,leOK,?_⟩)|refine ⟨_,_,.head _,rfl,?_⟩);conv=>whnf)
       refine ⟨ext0,hx0,?_⟩
       rw [← hes1]
       exact ⟨hgv.symm,ext,_,hext,hn2,hlx ext,rb,_,List.Perm.cons _ (List.Perm.cons _ hpm)⟩
    | cons z Q'=>
      rcases hoo with ⟨h0,rfl,rfl⟩|⟨ob,pr,rfl,rfl⟩
      ·rw [hQ] at h0;cases h0
      subst hQ
      obtain ⟨hz1,hok2⟩:=hok.ok.pop
      have htk:=take_one hz1
      have hfew:=hok.few
      have hlc:(z::Q').length=Q'.length+1:=rfl
      have htb:((mgW (clsX E x)).take t).length≤65:=by omega
      conv=>whnf
      repeat ((refine ⟨_,_,.tail _ (.tail _ (.head _)),rfl,?_⟩);conv=>whnf)
      refine cF (decide_eq_false (by omega)) ?_
      conv=>whnf
      repeat ((first|(refine ⟨_,_,.tail _ (.tail _ (.head _)),rfl,?_⟩)|(refine ⟨0,gP_of ⟨rfl,by omega⟩,?_⟩)|(refine ldP (i:=0) encWy_len (.tail _ (.tail _ (.tail _ (.head _)))) rfl rfl ?_)|refine And.intro (by show drawOK (opsAt Tryz.f105 _) _=true;decide +kernel) ?_);conv=>whnf)
      first|refine ⟨Nat.le_of_ble_eq_true rfl,fun q'=>?_⟩|refine ⟨(by simp;unfold AMAX;omega),fun q'=>⟨_,.there (.there (.there (.here _))),?_⟩⟩
      conv=>whnf
      repeat ((first|refine ⟨gP_of ⟨by omega,by omega⟩,?_⟩|(refine ⟨_,_,.there (.there (.there (.here _))),leOK,?_⟩)|(refine ⟨_,_,.tail _ (.tail _ (.tail _ (.head _))),rfl,?_⟩));conv=>whnf)
      have e1:pr.length+Int.toNat 1*4=(pr++encWy z).length:=by rw [List.length_append];rfl
      have e2:(((z::Q').length:Nat):Int).toNat - Int.toNat 1=Q'.length:=by rw [Int.toNat_natCast];rfl
      have e3:pr++((z::Q').map encWy).flatten=(pr++encWy z)++(Q'.map encWy).flatten:=by simp
      have hfew2:Q'.length+(if true=true then 1 else 0)≤60000:=by simp at hfew ⊢;omega
      rw [e1,e2,e3]
      first
       | exact ⟨_,_,Turn.refl _ _,_,(by omega),t+1,true,Q',_,[(q',.tok)],_,[(ob,_)],ext,hC,rfl,rfl,rfl,⟨hok2,hfew2,by omega⟩,.inr ⟨q',by rw [htk,List.map_append];rfl,rfl⟩,.inr ⟨ob,pr++encWy z,rfl,rfl⟩,hext,hN2⟩
       | exact ⟨_,_,Turn.perm (List.perm_middle (l₁:=[_,_,_])).symm,_,(by omega),t+1,true,Q',_,[(q',.tok)],_,[(ob,_)],ext,hC,rfl,rfl,rfl,⟨hok2,hfew2,by omega⟩,.inr ⟨q',by rw [htk,hF];rfl,rfl⟩,.inr ⟨ob,pr++encWy z,rfl,rfl⟩,hext,hN2⟩
   ·conv=>whnf
    repeat ((refine ⟨_,_,.tail _ (.tail _ (.head _)),rfl,?_⟩);conv=>whnf)
    refine ⟨fun hz=>?_,fun hz=>?_⟩<;>simp at hz
    ·have htr:t≤rank:=by omega
     cases due with
     | false=>
       conv=>whnf
       repeat ((refine ⟨_,_,.tail _ (.tail _ (.head _)),rfl,?_⟩);conv=>whnf)
       refine cF rfl ?_
       cases hQ:Q with
       | nil=>
         subst hQ
         have hgv:getV E x rank=.tup [.agg zeroWy,.bool false]:=by unfold getV;rw [hwa,mgW_over hok.ok.empty htr]
         obtain ⟨hp2,hn2,hpm⟩:=fin _ _ _ _ _ _ _ _ _ hok hfo' hoo hext hN2
         rcases hoo with ⟨_,rfl,rfl⟩|⟨ob,pr,rfl,rfl⟩
         all_goals
          conv=>whnf
          repeat ((refine ⟨_,_,.tail _ (.tail _ (.head _)),rfl,?_⟩);conv=>whnf)
          refine cT rfl ?_
          conv=>whnf
          repeat ((first|(refine ⟨_,_,.here _,leOK,?_⟩)|refine ⟨_,_,.head _,rfl,?_⟩);conv=>whnf)
          refine ⟨ext0,hx0,?_⟩
          rw [← hes1]
          exact ⟨hgv.symm,ext,_,hext,hn2,hlx ext,rb,_,List.Perm.cons _ (List.Perm.cons _ hpm)⟩
       | cons z Q'=>
         rcases hoo with ⟨h0,rfl,rfl⟩|⟨ob,pr,rfl,rfl⟩
         ·rw [hQ] at h0;cases h0
         subst hQ
         obtain ⟨hz1,hok2⟩:=hok.ok.pop
         have htk:=take_one hz1
         have hfew:=hok.few
         have hlc:(z::Q').length=Q'.length+1:=rfl
         have htb:((mgW (clsX E x)).take t).length≤65:=by omega
         conv=>whnf
         repeat ((refine ⟨_,_,.tail _ (.tail _ (.head _)),rfl,?_⟩);conv=>whnf)
         refine cF (decide_eq_false (by omega)) ?_
         conv=>whnf
         repeat ((first|(refine ⟨_,_,.tail _ (.tail _ (.head _)),rfl,?_⟩)|(refine ⟨0,gP_of ⟨rfl,by omega⟩,?_⟩)|(refine ldP (i:=0) encWy_len (.tail _ (.tail _ (.tail _ (.tail _ (.head _))))) rfl rfl ?_)|refine And.intro (by show drawOK (opsAt Tryz.f105 _) _=true;decide +kernel) ?_);conv=>whnf)
         first|refine ⟨Nat.le_of_ble_eq_true rfl,fun q'=>?_⟩|refine ⟨(by simp;unfold AMAX;omega),fun q'=>⟨_,.there (.there (.there (.here _))),?_⟩⟩
         conv=>whnf
         repeat ((first|refine ⟨gP_of ⟨by omega,by omega⟩,?_⟩|(refine ⟨_,_,.there (.there (.here _)),leOK,?_⟩)|(refine ⟨_,_,.tail _ (.tail _ (.head _)),rfl,?_⟩));conv=>whnf)
         have e1:pr.length+Int.toNat 1*4=(pr++encWy z).length:=by rw [List.length_append];rfl
         have e2:(((z::Q').length:Nat):Int).toNat - Int.toNat 1=Q'.length:=by rw [Int.toNat_natCast];rfl
         have e3:pr++((z::Q').map encWy).flatten=(pr++encWy z)++(Q'.map encWy).flatten:=by simp
         have hfew2:Q'.length+(if true=true then 1 else 0)≤60000:=by simp at hfew ⊢;omega
         rw [e1,e2,e3]
         first
          | exact ⟨_,_,Turn.refl _ _,_,(by omega),t+1,true,Q',_,[(q',.tok)],_,[(ob,_)],ext,hC,rfl,rfl,rfl,⟨hok2,hfew2,by omega⟩,.inr ⟨q',by rw [htk,List.map_append];rfl,rfl⟩,.inr ⟨ob,pr++encWy z,rfl,rfl⟩,hext,hN2⟩
          | exact ⟨_,_,Turn.perm (List.perm_middle (l₁:=[_,_,_])).symm,_,(by omega),t+1,true,Q',_,[(q',.tok)],_,[(ob,_)],ext,hC,rfl,rfl,rfl,⟨hok2,hfew2,by omega⟩,.inr ⟨q',by rw [htk,hF];rfl,rfl⟩,.inr ⟨ob,pr++encWy z,rfl,rfl⟩,hext,hN2⟩
     | true=>
       obtain ⟨y,hy⟩:=hok.ok.last
       have ht1:=hok.ok.pos rfl
       have hyr:=mgW_rank hy
       have hyt:((mgW (clsX E x)).take t)[t - 1]?=some y:=by rw [List.getElem?_take_of_lt (by omega)];exact hy
       obtain ⟨_,cl,hcl,hcc⟩:=mgW_cand hy
       have hye:=(List.getElem?_eq_some_iff.1 hcl).1
       rw [clsX_len] at hye
       have hyk:y.edge≤40000:=by omega
       by_cases hy0:y.edge=0
       ·have hl0:(lastL E x)[y.rank+1]?=none:=by
         unfold lastL
         split<;>simp
        have hok:NodeT (clsX E x) t false Q:=⟨hok.ok.skip hy (by rw [hy0];exact clsX_zero E x) hl0,by have:=hok.few;simp at this ⊢;omega,hok.asked⟩
        conv=>whnf
        repeat ((refine ⟨_,_,.tail _ (.tail _ (.head _)),rfl,?_⟩);conv=>whnf)
        refine cT rfl ?_
        conv=>whnf
        repeat ((first|refine ⟨gP_of ⟨by omega,by omega⟩,?_⟩|(refine ⟨_,_,.there (.there (.here _)),leOK,?_⟩)|(refine ⟨_,_,.tail _ (.tail _ (.head _)),rfl,?_⟩)|(refine ixn (t - 1) (by omega) hyt ?_)|refine ⟨_,_,Rem.here _,?_⟩|refine ⟨_,_,.here _,leOK,?_⟩|refine And.intro (by show drawOK (opsAt Tryz.f105 _) _=true;decide +kernel) ?_|intro (nb:Nat));conv=>whnf)
        refine cF (decide_eq_false (by omega)) ?_
        cases hQ:Q with
        | nil=>
          subst hQ
          have hgv:getV E x rank=.tup [.agg zeroWy,.bool false]:=by unfold getV;rw [hwa,mgW_over hok.ok.empty htr]
          obtain ⟨hp2,hn2,hpm⟩:=fin _ _ _ _ _ _ _ _ _ hok hfo' hoo hext hN2
          rcases hoo with ⟨_,rfl,rfl⟩|⟨ob,pr,rfl,rfl⟩
          all_goals
           conv=>whnf
           repeat ((refine ⟨_,_,.tail _ (.tail _ (.head _)),rfl,?_⟩);conv=>whnf)
           refine cT rfl ?_
           conv=>whnf
           repeat ((first|(refine ⟨_,_,.here _,leOK,?_⟩)|refine ⟨_,_,.head _,rfl,?_⟩);conv=>whnf)
           refine ⟨ext0,hx0,?_⟩
           rw [← hes1]
           exact ⟨hgv.symm,ext,_,hext,hn2,hlx ext,rb,_,List.Perm.cons _ (List.Perm.cons _ hpm)⟩
        | cons z Q'=>
          rcases hoo with ⟨h0,rfl,rfl⟩|⟨ob,pr,rfl,rfl⟩
          ·rw [hQ] at h0;cases h0
          subst hQ
          obtain ⟨hz1,hok2⟩:=hok.ok.pop
          have htk:=take_one hz1
          have hfew:=hok.few
          have hlc:(z::Q').length=Q'.length+1:=rfl
          have htb:((mgW (clsX E x)).take t).length≤65:=by omega
          conv=>whnf
          repeat ((refine ⟨_,_,.tail _ (.tail _ (.head _)),rfl,?_⟩);conv=>whnf)
          refine cF (decide_eq_false (by omega)) ?_
          conv=>whnf
          repeat ((first|(refine ⟨_,_,.tail _ (.tail _ (.head _)),rfl,?_⟩)|(refine ⟨0,gP_of ⟨rfl,by omega⟩,?_⟩)|(refine ldP (i:=0) encWy_len (.tail _ (.tail _ (.tail _ (.tail _ (.head _))))) rfl rfl ?_)|refine And.intro (by show drawOK (opsAt Tryz.f105 _) _=true;decide +kernel) ?_);conv=>whnf)
          first|refine ⟨Nat.le_of_ble_eq_true rfl,fun q'=>?_⟩|refine ⟨(by simp;unfold AMAX;omega),fun q'=>⟨_,.there (.there (.there (.here _))),?_⟩⟩
          conv=>whnf
          repeat ((first|refine ⟨gP_of ⟨by omega,by omega⟩,?_⟩|(refine ⟨_,_,.there (.there (.here _)),leOK,?_⟩)|(refine ⟨_,_,.tail _ (.tail _ (.head _)),rfl,?_⟩));conv=>whnf)
          have e1:pr.length+Int.toNat 1*4=(pr++encWy z).length:=by rw [List.length_append];rfl
          have e2:(((z::Q').length:Nat):Int).toNat - Int.toNat 1=Q'.length:=by rw [Int.toNat_natCast];rfl
          have e3:pr++((z::Q').map encWy).flatten=(pr++encWy z)++(Q'.map encWy).flatten:=by simp
          have hfew2:Q'.length+(if true=true then 1 else 0)≤60000:=by simp at hfew ⊢;omega
          rw [e1,e2,e3]
          first
           | exact ⟨_,_,Turn.refl _ _,_,(by omega),t+1,true,Q',_,[(q',.tok)],_,[(ob,_)],ext,hC,rfl,rfl,rfl,⟨hok2,hfew2,by omega⟩,.inr ⟨q',by rw [htk,List.map_append];rfl,rfl⟩,.inr ⟨ob,pr++encWy z,rfl,rfl⟩,hext,hN2⟩
           | exact ⟨_,_,Turn.perm (List.perm_middle (l₁:=[_,_,_])).symm,_,(by omega),t+1,true,Q',_,[(q',.tok)],_,[(ob,_)],ext,hC,rfl,rfl,rfl,⟨hok2,hfew2,by omega⟩,.inr ⟨q',by rw [htk,hF];rfl,rfl⟩,.inr ⟨ob,pr++encWy z,rfl,rfl⟩,hext,hN2⟩
       ·obtain ⟨mv,hmv⟩:=get_lt (l:=movesM E x) (i:=y.edge - 1) (by omega)
        have hmk:=hmo mv (List.mem_of_getElem? hmv)
        have hnx:=hmk.next
        have hmc:=hmk.cost
        have hcl2:=clsX_get hmv
        rw [show y.edge - 1+1=y.edge by omega] at hcl2
        conv=>whnf
        repeat ((refine ⟨_,_,.tail _ (.tail _ (.head _)),rfl,?_⟩);conv=>whnf)
        refine cT rfl ?_
        conv=>whnf
        repeat ((first|refine ⟨gP_of ⟨by omega,by omega⟩,?_⟩|(refine ⟨_,_,.there (.there (.here _)),leOK,?_⟩)|(refine ⟨_,_,.tail _ (.tail _ (.head _)),rfl,?_⟩)|(refine ixn (t - 1) (by omega) hyt ?_)|refine ⟨_,_,Rem.here _,?_⟩|refine ⟨_,_,.here _,leOK,?_⟩|refine And.intro (by show drawOK (opsAt Tryz.f105 _) _=true;decide +kernel) ?_|intro (nb:Nat));conv=>whnf)
        refine cT (decide_eq_true (by omega)) ?_
        have hrc:=recCall (IH mv.to hmk.to hnx) (nb:=tb) (cv:=cv) (es:=es1++ext) (c:=c) (hB:=hC) (rank:=y.rank+1) (by rw [hnx];exact hN2) (by omega) [(rb,.vec zeroWy)] ((k,.vec (ndC (mvV E x) (.sl 4 (some q) (((mgW (clsX E x)).take t).map encWy)) ov false))::(q,.tok)::(oh++(hX++hY)))
        simp only [List.append_assoc,List.cons_append] at hrc
        conv=>whnf
        repeat ((first|refine ⟨gP_of ⟨by omega,by omega⟩,?_⟩|(refine ⟨_,_,.tail _ (.tail _ (.head _)),rfl,?_⟩)|(refine ixn (enc:=encMv) (y.edge - 1) (by omega) hmv ?_)|(refine ACalls.mono ?_ hrc)|refine ⟨_,_,Rem.here _,?_⟩|refine ⟨_,_,.here _,leOK,?_⟩|refine And.intro (by show drawOK (opsAt Tryz.f105 _) _=true;decide +kernel) ?_|intro (nb:Nat));conv=>whnf)
        rintro v h1 ⟨rfl,ext2,hC2,hx2,hn2,rfl⟩
        rw [hnx] at hn2 hx2
        have hext2:∀ p∈ext++ext2,x.n+1≤p.1.n:=by
         intro p hp
         rcases List.mem_append.1 hp with h|h
         ·exact hext p h
         ·exact hx2 p h
        have hl3:((wayS E mv.to).map fun w=>w.cost+(mv.cost*16+1))[y.rank+1]?=((wayS E mv.to)[y.rank+1]?).map fun w=>w.cost+(mv.cost*16+1):=List.getElem?_map
        have hfew:=hok.few
        have hfew3:Q.length+1≤60000:=by simpa using hfew
        obtain ⟨ext3,hex3⟩:∃ e,e=ext++ext2:=⟨_,rfl⟩
        rw [← hex3] at hext2 hn2
        rw [← hex3]
        have hext:=hext2
        have hN2:=hn2
        obtain ⟨ext,rfl⟩:∃ e,e=ext3:=⟨_,rfl⟩
        obtain ⟨hC,rfl⟩:∃ e,e=hC2:=⟨_,rfl⟩
        cases hw:(wayS E mv.to)[y.rank+1]? with
        | none=>
          have hgv:getV E mv.to (y.rank+1)=.tup [.agg zeroWy,.bool false]:=by unfold getV;rw [hw]
          rw [hw] at hl3
          rw [hgv]
          have hok:NodeT (clsX E x) t false Q:=⟨hok.ok.skip hy hcl2 hl3,by simp;omega,hok.asked⟩
          conv=>whnf
          repeat ((first|refine ⟨_,_,Rem.here _,⟨Nat.le_of_ble_eq_true rfl,rfl⟩,?_⟩|intro (nb:Nat));conv=>whnf)
          refine cF rfl ?_
          cases hQ:Q with
          | nil=>
            subst hQ
            have hgv:getV E x rank=.tup [.agg zeroWy,.bool false]:=by unfold getV;rw [hwa,mgW_over hok.ok.empty htr]
            obtain ⟨hp2,hn2,hpm⟩:=fin _ _ _ _ _ _ _ _ _ hok hfo' hoo hext hN2
            rcases hoo with ⟨_,rfl,rfl⟩|⟨ob,pr,rfl,rfl⟩
            all_goals
             conv=>whnf
             repeat ((refine ⟨_,_,.tail _ (.tail _ (.head _)),rfl,?_⟩);conv=>whnf)
             refine cT rfl ?_
             conv=>whnf
             repeat ((first|(refine ⟨_,_,.here _,leOK,?_⟩)|refine ⟨_,_,.head _,rfl,?_⟩);conv=>whnf)
             refine ⟨ext0,hx0,?_⟩
             rw [← hes1]
             exact ⟨hgv.symm,ext,_,hext,hn2,hlx ext,rb,_,List.Perm.cons _ (List.Perm.cons _ hpm)⟩
          | cons z Q'=>
            rcases hoo with ⟨h0,rfl,rfl⟩|⟨ob,pr,rfl,rfl⟩
            ·rw [hQ] at h0;cases h0
            subst hQ
            obtain ⟨hz1,hok2⟩:=hok.ok.pop
            have htk:=take_one hz1
            have hfew:=hok.few
            have hlc:(z::Q').length=Q'.length+1:=rfl
            have htb:((mgW (clsX E x)).take t).length≤65:=by omega
            conv=>whnf
            repeat ((refine ⟨_,_,.tail _ (.tail _ (.head _)),rfl,?_⟩);conv=>whnf)
            refine cF (decide_eq_false (by omega)) ?_
            conv=>whnf
            repeat ((first|(refine ⟨_,_,.tail _ (.tail _ (.head _)),rfl,?_⟩)|(refine ⟨0,gP_of ⟨rfl,by omega⟩,?_⟩)|(refine ldP (i:=0) encWy_len (.tail _ (.tail _ (.tail _ (.tail _ (.head _))))) rfl rfl ?_)|refine And.intro (by show drawOK (opsAt Tryz.f105 _) _=true;decide +kernel) ?_);conv=>whnf)
            first|refine ⟨Nat.le_of_ble_eq_true rfl,fun q'=>?_⟩|refine ⟨(by simp;unfold AMAX;omega),fun q'=>⟨_,.there (.there (.there (.here _))),?_⟩⟩
            conv=>whnf
            repeat ((first|refine ⟨gP_of ⟨by omega,by omega⟩,?_⟩|(refine ⟨_,_,.there (.there (.here _)),leOK,?_⟩)|(refine ⟨_,_,.tail _ (.tail _ (.head _)),rfl,?_⟩));conv=>whnf)
            have e1:pr.length+Int.toNat 1*4=(pr++encWy z).length:=by rw [List.length_append];rfl
            have e2:(((z::Q').length:Nat):Int).toNat - Int.toNat 1=Q'.length:=by rw [Int.toNat_natCast];rfl
            have e3:pr++((z::Q').map encWy).flatten=(pr++encWy z)++(Q'.map encWy).flatten:=by simp
            have hfew2:Q'.length+(if true=true then 1 else 0)≤60000:=by simp at hfew ⊢;omega
            rw [e1,e2,e3]
            first
             | exact ⟨_,_,Turn.refl _ _,_,(by omega),t+1,true,Q',_,[(q',.tok)],_,[(ob,_)],ext,hC,rfl,rfl,rfl,⟨hok2,hfew2,by omega⟩,.inr ⟨q',by rw [htk,List.map_append];rfl,rfl⟩,.inr ⟨ob,pr++encWy z,rfl,rfl⟩,hext,hN2⟩
             | exact ⟨_,_,Turn.perm (List.perm_middle (l₁:=[_,_,_])).symm,_,(by omega),t+1,true,Q',_,[(q',.tok)],_,[(ob,_)],ext,hC,rfl,rfl,rfl,⟨hok2,hfew2,by omega⟩,.inr ⟨q',by rw [htk,hF];rfl,rfl⟩,.inr ⟨ob,pr++encWy z,rfl,rfl⟩,hext,hN2⟩
        | some w=>
          have hgv:getV E mv.to (y.rank+1)=.tup [.agg (encWy w),.bool true]:=by unfold getV;rw [hw]
          rw [hw] at hl3
          have hwb:=way_bound hE _ mv.to hmk.to rfl w (List.mem_of_getElem? hw)
          have hd:(12 - mv.to.n).toNat≤11:=by omega
          rw [hgv]
          conv=>whnf
          repeat ((first|refine ⟨_,_,Rem.here _,⟨Nat.le_of_ble_eq_true rfl,rfl⟩,?_⟩|intro (nb:Nat));conv=>whnf)
          refine cT rfl ?_
          have hpc:=putCall (x:=⟨w.cost+(mv.cost*16+1),y.edge,y.rank+1⟩) hok.ok.sorted (nk:=k) (mv:=mvV E x) (fv:=.sl 4 (some q) (((mgW (clsX E x)).take t).map encWy)) (due:=false) hoo (by omega) [(rb,.vec zeroWy),(tb,mapS (es1++ext))] [(q,.tok)] (hX++(hY++hC))
          rw [encW_eq _ _ _ _ hwb.1 (by omega)] at hpc
          conv=>whnf
          repeat ((first|refine ⟨gP_of ⟨by omega,by omega⟩,?_⟩|(refine ACalls.mono ?_ hpc)|refine And.intro (by show drawOK (opsAt Tryz.f105 _) _=true;decide +kernel) ?_);conv=>whnf)
          have hok2:NodeT (clsX E x) t false (insW ⟨w.cost+(mv.cost*16+1),y.edge,y.rank+1⟩ Q):=⟨hok.ok.push hy hcl2 hl3,by rw [insW_length];simp;omega,hok.asked⟩
          clear hok hoo
          rintro v h1 ⟨rfl,ov,oh,hoo,rfl⟩
          obtain ⟨Q,hQe⟩:∃ Q',Q'=insW ⟨w.cost+(mv.cost*16+1),y.edge,y.rank+1⟩ Q:=⟨_,rfl⟩
          rw [← hQe] at hoo hok2
          have hok:=hok2
          conv=>whnf
          repeat ((refine ⟨_,_,.tail _ (.tail _ (.head _)),rfl,?_⟩);conv=>whnf)
          cases hQ:Q with
          | nil=>
            subst hQ
            have hgv:getV E x rank=.tup [.agg zeroWy,.bool false]:=by unfold getV;rw [hwa,mgW_over hok.ok.empty htr]
            obtain ⟨hp2,hn2,hpm⟩:=fin _ _ _ _ _ _ _ _ _ hok hfo' hoo hext hN2
            rcases hoo with ⟨_,rfl,rfl⟩|⟨ob,pr,rfl,rfl⟩
            all_goals
             conv=>whnf
             skip
             refine cT rfl ?_
             conv=>whnf
             repeat ((first|(refine ⟨_,_,.here _,leOK,?_⟩)|refine ⟨_,_,.head _,rfl,?_⟩);conv=>whnf)
             refine ⟨ext0,hx0,?_⟩
             rw [← hes1]
             exact ⟨hgv.symm,ext,_,hext,hn2,hlx ext,rb,_,List.Perm.cons _ (List.Perm.cons _ hpm)⟩
          | cons z Q'=>
            rcases hoo with ⟨h0,rfl,rfl⟩|⟨ob,pr,rfl,rfl⟩
            ·rw [hQ] at h0;cases h0
            subst hQ
            obtain ⟨hz1,hok2⟩:=hok.ok.pop
            have htk:=take_one hz1
            have hfew:=hok.few
            have hlc:(z::Q').length=Q'.length+1:=rfl
            have htb:((mgW (clsX E x)).take t).length≤65:=by omega
            conv=>whnf
            skip
            refine cF (decide_eq_false (by omega)) ?_
            conv=>whnf
            repeat ((first|(refine ⟨_,_,.tail _ (.tail _ (.head _)),rfl,?_⟩)|(refine ⟨0,gP_of ⟨rfl,by omega⟩,?_⟩)|(refine ldP (i:=0) encWy_len (.tail _ (.tail _ (.tail _ (.tail _ (.head _))))) rfl rfl ?_)|refine And.intro (by show drawOK (opsAt Tryz.f105 _) _=true;decide +kernel) ?_);conv=>whnf)
            first|refine ⟨Nat.le_of_ble_eq_true rfl,fun q'=>?_⟩|refine ⟨(by simp;unfold AMAX;omega),fun q'=>⟨_,.there (.there (.there (.here _))),?_⟩⟩
            conv=>whnf
            repeat ((first|refine ⟨gP_of ⟨by omega,by omega⟩,?_⟩|(refine ⟨_,_,.there (.there (.here _)),leOK,?_⟩)|(refine ⟨_,_,.tail _ (.tail _ (.head _)),rfl,?_⟩));conv=>whnf)
            have e1:pr.length+Int.toNat 1*4=(pr++encWy z).length:=by rw [List.length_append];rfl
            have e2:(((z::Q').length:Nat):Int).toNat - Int.toNat 1=Q'.length:=by rw [Int.toNat_natCast];rfl
            have e3:pr++((z::Q').map encWy).flatten=(pr++encWy z)++(Q'.map encWy).flatten:=by simp
            have hfew2:Q'.length+(if true=true then 1 else 0)≤60000:=by simp at hfew ⊢;omega
            rw [e1,e2,e3]
            first
             | exact ⟨_,_,Turn.refl _ _,_,(by omega),t+1,true,Q',_,[(q',.tok)],_,[(ob,_)],ext,hC,rfl,rfl,rfl,⟨hok2,hfew2,by omega⟩,.inr ⟨q',by rw [htk,List.map_append];rfl,rfl⟩,.inr ⟨ob,pr++encWy z,rfl,rfl⟩,hext,hN2⟩
             | exact ⟨_,_,Turn.perm (List.perm_middle (l₁:=[_,_,_])).symm,_,(by omega),t+1,true,Q',_,[(q',.tok)],_,[(ob,_)],ext,hC,rfl,rfl,rfl,⟨hok2,hfew2,by omega⟩,.inr ⟨q',by rw [htk,hF];rfl,rfl⟩,.inr ⟨ob,pr++encWy z,rfl,rfl⟩,hext,hN2⟩
    ·obtain ⟨w,hw⟩:=get_lt (l:=(mgW (clsX E x)).take t) (i:=rank) (by omega)
     have hw2:=hw
     rw [List.getElem?_take_of_lt (by omega)] at hw2
     obtain ⟨hp2,hn2,hpm⟩:=fin _ _ _ _ _ _ _ _ _ hok hfo' hoo hext hN2
     conv=>whnf
     repeat ((first|refine ix (by assumption) ?_|(refine ⟨_,_,.tail _ (.tail _ (.head _)),rfl,?_⟩)|(refine ⟨_,_,.here _,leOK,?_⟩)|refine ⟨_,_,.head _,rfl,?_⟩);conv=>whnf)
     refine ⟨ext0,hx0,?_⟩
     rw [← hes1]
     refine ⟨?_,ext,_,hext,hn2,hlx ext,rb,_,List.Perm.cons _ (List.Perm.cons _ hpm)⟩
     unfold getV
     rw [hwa,hw2];rfl
 ·rintro v h1 ⟨hv,ext,hp',he,hn',hls,rb,o,hpm⟩
  refine ⟨v,_,⟨hv,ext,hp',he,hn',hls,rfl⟩,VLe.refl _,fun k o hm=>hpm.mem_iff.2 (List.mem_cons_of_mem _ hm),fun hn=>?_⟩
  have:=((hpm.map (fun p:Nat × Ob=>p.1)).nodup_iff).1 hn
  exact (List.nodup_cons.1 this).2
end Go.Abs.Wall.Spl
