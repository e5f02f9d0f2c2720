/- What is proved: small laws for the walks of this seat, and contracts of its functions. No condition but those each theorem names. -/
import Derived.Test.YtbmcnieifibckaaGreatN16
import Derived.Test.YtbmcnieifibckaaGreatN14
set_option maxRecDepth 100000
set_option maxHeartbeats 2000000
set_option linter.unusedVariables false
set_option linter.unusedSimpArgs false
namespace Go.Abs.Wall.Lst
open Go Go.Abs Go.Proofs Go.Abs.Wall
theorem Ng {m:Nat} {rs:Nat->Nat} (h:∀ j,rs j<m):∀ {ls:List (List Int)} {k:Nat},nj rs (ls.map (·.take m)) k=nj rs ls k
 | [],k=>rfl
 | l::ls,k=>by rw [List.map_cons];unfold nj;rw [Ng h,List.getElem?_take_of_lt (h k)]
theorem Nh {m:Nat} {rs:Nat->Nat} {cls:List (List Int)} (h:∀ j,rs j<m):gK (cls.map (·.take m)) rs=gK cls rs:=Ng h
theorem Ni (cls:List (List Int)) (m:Nat):∀ t,t<=m->cX (cls.map (·.take m)) t=cX cls t
 | 0,_=>rfl
 | t+1,ht=>by have ih:=Ni cls m t (by omega);unfold cX at ih ⊢;rw [Bq,Bq,ih,Nh fun j=>by have:=Hj cls t j;unfold cX at this;omega]
theorem Ux (cls:List (List Int)) (m:Nat):(aY (cls.map (·.take m))).take m=(aY cls).take m:=by
 refine List.ext_getElem? fun t=>?_;by_cases h:t<m
 ·rw [List.getElem?_take_of_lt h,List.getElem?_take_of_lt h,mc,mc,Ni cls m t (by omega)];exact Nh fun j=>by have:=Hj cls t j;omega
 rw [List.getElem?_take_eq_none (by omega),List.getElem?_take_eq_none (by omega)]
def tl (g:List (List az)) (m j:Nat):List (List az):=((bu g j).take m).map (·.2)
theorem Uy (g:List (List az)) {m:Nat} (hm:1<=m):tl g m g.length=[[]]:=by unfold tl;rw [vW,List.take_of_length_le (by simpa using hm)];rfl
theorem Em (g:List (List az)) (m j:Nat):(tl g m j).length<=m:=by unfold tl;rw [List.length_map,List.length_take];omega
theorem vZ (x:az) (p:List az):cp (x::p)=x.cost+cp p:=by unfold cp;rw [List.map_cons,List.sum_cons]
theorem Eo {g:List (List az)} (hg:gV g):∀ (d i:Nat),i+d=g.length->∀ p∈bu g i,cp p.2=p.1:=by
 intro d;induction d using Nat.strongRecOn with
 | _ d ih=>
   intro i hi p hp;by_cases h:i<g.length
   ·obtain ⟨es,bp⟩:=aN h;have hE:=hg.aP i es bp;rw [uC bp hE,List.mem_map] at hp;obtain ⟨w,hw,rfl⟩:=hp;rw [Hw];obtain ⟨t,ht⟩:=List.mem_iff_getElem?.1 hw;obtain ⟨_,l,h2,h3⟩:=iN ht;unfold dh at h2;rw [List.getElem?_map] at h2;cases hx:es[w.aP]? with
    | none=>rw [hx] at h2;cases h2
    | some x=>
      rw [hx] at h2;cases h2
      have ho:=hE x (List.mem_of_getElem? hx);unfold lD at h3;rw [List.getElem?_map] at h3;cases hq:(bu g x.to.toNat)[w.aO]? with
      | none=>rw [hq] at h3;cases h3
      | some q=>
        rw [hq] at h3;have h3:x.cost+q.1=w.cost:=(by simpa using h3);have h5:=ho.lo;have h6:=ho.hi;have:=ih (g.length - x.to.toNat) (by omega) x.to.toNat (by omega) q (List.mem_of_getElem? hq);unfold kD;rw [hx];show cp (x::((bu g x.to.toNat).getD w.aO (0,[])).2)=_;rw [List.getD_eq_getElem?_getD,hq];show cp (x::q.2)=_;rw [vZ,this,h3]
   have:i=g.length:=(by omega);subst this;rw [vW] at hp;simp at hp;subst hp;rfl
theorem Nj {g:List (List az)} (hg:gV g) {j:Nat} (hj:j<=g.length) (m:Nat):∀ p∈tl g m j,0<=cp p/\cp p<=1080000:=by intro p hp;unfold tl at hp;obtain ⟨q,hq,rfl⟩:=List.mem_map.1 hp;have hq:=List.mem_of_mem_take hq;have h1:=MR hg (g.length - j) j (by omega) q hq;have h2:=Eo hg (g.length - j) j (by omega) q hq;have:=hg.bE;rw [h2];omega
def fW (g:List (List az)) (m:Nat) (es:List az):List (List (List az)):=es.map fun x=>(tl g m x.to.toNat).map (x::·)
theorem Uz {g:List (List az)} (hg:gV g) {m i:Nat} {es:List az} (bp:g[i]?=some es):cA (fW g m es)=(dh g es).map (·.take m):=by unfold cA fW dh;rw [List.map_map,List.map_map];refine List.map_congr_left fun x hx=>?_;have ho:=hg.aP i es bp x hx;have h5:=ho.lo;have h6:=ho.hi;show ((tl g m x.to.toNat).map (x::·)).map cp=(lD x (bu g x.to.toNat)).take m;unfold tl lD;rw [List.map_map,List.map_map,<- List.map_take];refine List.map_congr_left fun p hp=>?_;show cp (x::p.2)=x.cost+p.1;rw [vZ,Eo hg (g.length - x.to.toNat) _ (by omega) p (List.mem_of_mem_take hp)]
theorem Nk {g:List (List az)} (hg:gV g) {m i:Nat} {es:List az} (bp:g[i]?=some es):eT (fW g m es) m=tl g m i:=by
 have hE:=hg.aP i es bp;unfold eT;rw [Uz hg bp,Ux];unfold tl;rw [uC bp hE,<- List.map_take,List.map_map];refine List.map_congr_left fun w hw=>?_;obtain ⟨t,ht⟩:=List.mem_iff_getElem?.1 hw;have xt:t<m:=by have:=(List.getElem?_eq_some_iff.1 ht).1;rw [List.length_take] at this;omega
 rw [List.getElem?_take_of_lt xt] at ht;have hr:=Bs ht;obtain ⟨_,l,h2,h3⟩:=iN ht;unfold dh at h2;rw [List.getElem?_map] at h2;cases hx:es[w.aP]? with
 | none=>rw [hx] at h2;cases h2
 | some x=>
   rw [hx] at h2;cases h2
   unfold lD at h3;rw [List.getElem?_map] at h3;cases hq:(bu g x.to.toNat)[w.aO]? with
   | none=>rw [hq] at h3;cases h3
   | some q=>
     show fE (fW g m es) w=(kD es (fun x=>bu g x.to.toNat) w).2;unfold fE fW kD;rw [List.getD_eq_getElem?_getD,List.getD_eq_getElem?_getD,List.getElem?_map,hx];show (((tl g m x.to.toNat).map (x::·))[w.aO]?).getD []=x::((bu g x.to.toNat).getD w.aO (0,[])).2;unfold tl;rw [List.getD_eq_getElem?_getD,hq,List.getElem?_map,List.getElem?_map,List.getElem?_take_of_lt (by omega),hq];rfl
def c82:aw:=⟨[0,1,2],[1],[2],[],[],[]⟩
def c98:aw:=⟨[0,1,4,5,6,7,8,9,10,11,12,13,14,15,31,40,57,108,131],[],[],[],[(15,[0,1,2,3,4,5,6,7,8,9,10,11,12,13,14,15,16,17,18,19,20,21,22,23,24,25,26,27,28,29,30,31,32,33],[]),(26,[0,1,2,3,4,5,6,7,8,9,10],[])],[]⟩
theorem Ep (w:cO) (h1:w.form.ah.length<=aV) (h2:w.aj.length<=aV):ae Tryz.prog 82 [.agg (du w)] [] (.agg (du w)):=by
 refine ae.of ?_;refine aG (F:=Tryz.f82) c82 rfl rfl rfl mixed rfl fun X=>?_;(conv=>whnf);intro b1;(conv=>whnf);intro b2;(conv=>whnf);repeat ((first|(refine ⟨(by rw [dB];exact h1),fun q1=>?_⟩)|(refine ⟨(by rw [List.length_map];exact h2),fun q2=>?_⟩)|(refine ⟨_,_,.there (.there (.here _)),aF,?_⟩)|(refine ⟨_,_,.there (.there (.there (.here _))),aF,?_⟩)|(refine ⟨_,_,.tail _ (.tail _ (.head _)),rfl,?_⟩)|(refine ⟨_,_,.tail _ (.tail _ (.tail _ (.head _))),rfl,?_⟩)|refine ⟨_,_,.tail _ (.head _),rfl,?_⟩);conv=>whnf)
 refine ⟨_,_,.there (.there (.here _)),⟨Nat.le_of_ble_eq_true rfl,rfl⟩,?_⟩;exact ag.agg (.cons (ag.refl _) (.cons (ag.refl _) (.cons ag.sl (.cons ag.sl .nil))))
end Go.Abs.Wall.Lst
namespace Go.Abs.Wall.Lst
open Go Go.Abs Go.Proofs Go.Abs.Wall
theorem UA {g:List (List az)} (hg:gV g):∀ (d i:Nat),i+d=g.length->∀ p∈bu g i,p.2.length<=d/\∀ x∈p.2,od x.word:=by
 intro d;induction d using Nat.strongRecOn with
 | _ d ih=>
   intro i hi p hp;by_cases h:i<g.length
   ·obtain ⟨es,bp⟩:=aN h;have hE:=hg.aP i es bp;rw [uC bp hE,List.mem_map] at hp;obtain ⟨w,hw,rfl⟩:=hp;unfold kD;cases hx:es[w.aP]? with
    | none=>exact ⟨Nat.zero_le _,fun x hx=>by cases hx⟩
    | some x=>
      have ho:=hE x (List.mem_of_getElem? hx);have h5:=ho.lo;have h6:=ho.hi;show (x::((bu g x.to.toNat).getD w.aO (0,[])).2).length<=d/\∀ y∈x::((bu g x.to.toNat).getD w.aO (0,[])).2,od y.word;rw [List.getD_eq_getElem?_getD];cases hq:(bu g x.to.toNat)[w.aO]? with
      | none=>
        refine ⟨by simp;omega,fun y hy=>?_⟩;rw [List.mem_singleton.1 hy];exact ho.fit
      | some q=>
        obtain ⟨h7,h8⟩:=ih (g.length - x.to.toNat) (by omega) x.to.toNat (by omega) q (List.mem_of_getElem? hq);refine ⟨by show q.2.length+1<=d;omega,fun y hy=>?_⟩;rcases List.mem_cons.1 hy with rfl|hy
        ·exact ho.fit
        exact h8 y hy
   have:i=g.length:=(by omega);subst this;rw [vW] at hp;simp at hp;subst hp;exact ⟨Nat.zero_le _,fun x hx=>by cases hx⟩
theorem Nl {g:List (List az)} (hg:gV g) {j:Nat} (hj:j<=g.length) (m:Nat):∀ p∈tl g m j,p.length<=60/\∀ x∈p,od x.word:=by intro p hp;unfold tl at hp;obtain ⟨q,hq,rfl⟩:=List.mem_map.1 hp;obtain ⟨h1,h2⟩:=UA hg (g.length - j) j (by omega) q (List.mem_of_mem_take hq);have:=hg.bE;exact ⟨by omega,h2⟩
def lJ (l:List (List az)):AV:=.sl 1 none (l.map db)
def TT (g:List (List az)) (m a j:Nat):AV:=if a<=j then lJ (tl g m j) else .aW
def wc (p:List az):tB:=⟨p.map (·.word),cp p⟩
theorem Nn {g:List (List az)} (hg:gV g) (m:Nat):jk g m=(tl g m 0).map wc:=by unfold jk tl;rw [List.map_map];refine List.map_congr_left fun p hp=>?_;show gA p=wc p.2;unfold gA wc;rw [Eo hg g.length 0 (by omega) p (List.mem_of_mem_take hp)]
theorem Np (m:Nat):eT [] m=[]:=by unfold eT cA aY;simp [oX,gen]
theorem Nq (most:Nat) (hm:most<=64):ae Tryz.prog 161 [.fM,.int .i64 most] [] (lJ []):=by
 refine ae.of ?_;refine aG (F:=Tryz.f161) c161 rfl rfl rfl mixed rfl fun X=>?_;(conv=>whnf);skip;refine bM rfl mixed [0,1,5] [] (fun m r h=>r=[(0,[],.fM),(1,[],.int .i64 most),(5,[],.aW)]/\h=[]/\m=0/\True) ?_ ?_
 ·(conv=>whnf);exact ⟨_,rfl,rfl,rfl,trivial⟩
 rintro m r h' ⟨rfl,rfl,rfl,-⟩;(conv=>whnf);skip;refine ⟨fun hz=>?_,fun hz=>?_⟩<;>simp at hz
 ·(conv=>whnf);skip;refine bM rfl mixed [0,1,5,6,7] [] (fun m r h=>r=[(0,[],.fM),(1,[],.int .i64 most),(5,[],.aW),(6,[],.int .i64 (-1)),(7,[],.int .i64 0)]/\h=[]/\m=0/\True) ?_ ?_
  ·(conv=>whnf);exact ⟨_,rfl,rfl,rfl,trivial⟩
  rintro m r h' ⟨rfl,rfl,rfl,-⟩;(conv=>whnf);skip;refine ⟨fun eX=>absurd (of_decide_eq_true eX) (by omega),fun _=>?_⟩;(conv=>whnf);skip;refine ⟨fun _=>?_,fun bF=>absurd bF (by decide)⟩;(conv=>whnf);skip;exact ag.nil (by decide)
 (conv=>whnf);skip;exact ag.nil (by decide)
theorem _root_.Go.Abs.cP.pre {a b:List AV} (h:cP a b):∀ xs:List AV,cP (xs++a) (xs++b)
 | []=>h
 | x::xs=>.cons (ag.refl x) (cP.pre h xs)
theorem iy.pre {a b:List (List AV)} (h:iy a b):∀ xs:List (List AV),iy (xs++a) (xs++b)
 | []=>h
 | x::xs=>.cons (cP.refl x) (iy.pre h xs)
theorem ar.left {r:aC} {A Z:ab}:ar r (A++Z) r A:=
 ar.sub (fun k o hm=>List.mem_append_left _ hm) fun hn=>by unfold keys at hn ⊢;rw [List.map_append] at hn;exact (List.nodup_append.1 hn).1
def Nr (L:List (List (List az))) (v:AV) (hp:ab):Prop:=(L=[]/\v=.fM/\hp=[])\/∃ lb,L≠[]/\v=.aR lb 0 L.length 1/\hp=[(lb,.vec (L.map fV).flatten)]
set_option maxHeartbeats 2000000 in
theorem UB (g:List (List az)) (hg:gV g) (most:Nat) (Ns:1<=most) (hm:most<=64):ae Tryz.prog 98 [.sl 1 none (g.map oW),.int .i64 most] [] (.sl 2 none ((jk g most).map om)):=by
 have dI:=hg.bE;refine ae.of ?_;refine aG (F:=Tryz.f98) c98 rfl rfl rfl mixed rfl fun X=>?_;(conv=>whnf);repeat ((first|(refine ⟨af ⟨by rw [List.length_map];omega,by rw [List.length_map];omega⟩,?_⟩)|(refine ⟨⟨rfl,by rw [List.length_map];omega,by rw [List.length_map];omega⟩,fun b=>?_⟩));conv=>whnf)
 rw [show (((g.map oW).length:Int)+1).toNat=g.length+1 by rw [List.length_map];omega,show iY (g.length+1) [AV.aW]=dY (g.length+1) (fun _=>.aW) from Nt _ _];repeat ((first|(refine ⟨g.length,af ⟨by rw [List.length_map],by omega⟩,?_⟩)|(refine BK ?_ (.here _) ?_;(focus (show 0+g.length*1<g.length+1;omega)))|(refine ⟨af ⟨by rw [List.length_map];omega,by rw [List.length_map];omega⟩,?_⟩));conv=>whnf)
 refine cy rfl mixed [0,1,5,6] [] (fun m r h=>∃ (a:Nat) (c:Int),r=[(0,[],.sl 1 none (g.map oW)),(1,[],.int .i64 most),(5,[],.aR b 0 (g.length+1) 1),(6,[],.int .i64 c)]/\h=[(b,.vec (dY (g.length+1) (TT g most a)))]/\m=a/\c=(a:Int) - 1/\a<=g.length) ?_ ?_
 ·(conv=>whnf);refine ⟨_,_,ar.refl _ _,_,g.length,_,rfl,?_,rfl,by rw [List.length_map],by omega⟩;refine congrArg (fun z=>[(b,Ob.vec z)]) (xW fun j hj=>?_);unfold TT;by_cases h:j=g.length
  ·rw [if_pos (show j=0+g.length*[AV.aW].length by simp;omega),if_pos (by omega),h,Uy g Ns];rfl
  rw [if_neg (show ¬ j=0+g.length*[AV.aW].length by simp;omega),if_neg (by omega)]
 rintro a r h' ⟨a',c,rfl,rfl,rfl,jF,ha⟩;(conv=>whnf);refine ⟨fun cI=>?_,fun cI=>?_⟩<;>simp at cI
 ·obtain ⟨d,rfl⟩:∃ d,a=d+1:=⟨a - 1,by omega⟩;have UC:c=(d:Int):=(by omega);subst UC;obtain ⟨es,bp⟩:=aN (l:=g) (i:=d) (by omega);have MZ:=hg.many d es bp;(conv=>whnf);skip;refine cy rfl mixed [0,1,5,6,7,8] [] (fun m r h=>∃ (k:Nat) (lv:AV) (lh:ab),r=[(0,[],.sl 1 none (g.map oW)),(1,[],.int .i64 most),(5,[],.aR b 0 (g.length+1) 1),(6,[],.int .i64 d),(7,[],lv),(8,[],.int .i64 k)]/\h=(b,.vec (dY (g.length+1) (TT g most (d+1))))::lh/\m=es.length - k/\k<=es.length/\Nr ((fW g most es).take k) lv lh) ?_ ?_
  ·(conv=>whnf);exact ⟨_,_,ar.qP (.cons (ag.refl _) (.cons (ag.refl _) (.cons (ag.refl _) (.cons (ag.refl _) (.cons xC (je.refl _)))))),_,0,.fM,[],rfl,rfl,rfl,by omega,.inl ⟨rfl,rfl,rfl⟩⟩
  rintro m r h' ⟨k,lv,lh,rfl,rfl,rfl,hk,ho⟩;have we:=ho;rcases ho with ⟨ph,rfl,rfl⟩|⟨lb,tg,rfl,rfl⟩
  ·skip;(conv=>whnf);repeat (refine ix (by assumption) ?_;conv=>whnf)
   refine ⟨fun bo=>?_,fun bo=>?_⟩<;>simp at bo
   ·obtain ⟨x,hx⟩:=aN bo;have lE:=hg.aP d es bp x (List.mem_of_getElem? hx);have h1:=lE.lo;have h2:=lE.hi;have mF:TT g most (d+1) (0+x.to.toNat*1)=lJ (tl g most x.to.toNat):=by unfold TT;rw [if_pos (by omega),Nat.zero_add,Nat.mul_one]
    (conv=>whnf);repeat ((first|refine ix (by assumption) ?_|(refine ⟨x.to.toNat,af ⟨by omega,by omega⟩,?_⟩)|(refine uK (lJ (tl g most x.to.toNat)) (.head _) rfl (by omega) mF ?_));conv=>whnf)
    have fQ:=Em g most x.to.toNat;have tC:=Nj hg (j:=x.to.toNat) (by omega) most;have Ek:=lE.cost;have bZ:(fW g most es).take (k+1)=(fW g most es).take k++[(tl g most x.to.toNat).map (x::·)]:=by refine dg ?_;unfold fW;rw [List.getElem?_map,hx];rfl
    obtain ⟨T,hT⟩:∃ T,T=tl g most x.to.toNat:=⟨_,rfl⟩;rw [<- hT] at fQ tC bZ;rw [<- hT];refine cy rfl mixed [0,1,5,6,7,8,9,10,11] [] (fun m r h=>∃ (j:Nat) (ov:AV) (oh:ab),r=[(0,[],.sl 1 none (g.map oW)),(1,[],.int .i64 most),(5,[],.aR b 0 (g.length+1) 1),(6,[],.int .i64 d),(7,[],.fM),(8,[],.int .i64 k),(9,[],ov),(10,[],lJ T),(11,[],.int .i64 j)]/\h=(b,.vec (dY (g.length+1) (TT g most (d+1))))::([]++oh)/\m=T.length - j/\j<=T.length/\Out 1 db ((T.take j).map (x::·)) ov oh) ?_ ?_
    ·(conv=>whnf);exact ⟨_,_,ar.refl _ _,_,0,.aW,[],rfl,rfl,rfl,by omega,.inl ⟨rfl,rfl,rfl⟩⟩
    rintro m r h' ⟨j,ov,oh,rfl,rfl,rfl,hj,cr⟩;have mE:((T.take j).map (x::·)).length=j:=by rw [List.length_map,List.length_take];omega
    rcases cr with ⟨BL,rfl,rfl⟩|⟨q,rfl,rfl⟩
    ·(conv=>whnf);skip;refine ⟨fun er=>?_,fun er=>?_⟩<;>simp at er
     ·obtain ⟨p,hp⟩:=aN (l:=T) (i:=j) (by omega);have qW:=tC p (List.mem_of_getElem? hp);have aA:((T.take (j+1)).map (x::·)).map db=[[.au (.int .i64 (x.cost+cp p)::(du x.word++[.au (pY p)]))]]:=by rw [dg hp,List.map_append,BL];show [[AV.au (.int .i64 (cp (x::p))::_)]]=_;rw [vZ];rfl
      (conv=>whnf);repeat ((first|refine ⟨af ⟨by omega,by omega⟩,?_⟩|refine ix (by assumption) ?_|refine And.intro (by show aJ (aH Tryz.f98 _) _=true;decide +kernel) ?_);conv=>whnf)
      refine ⟨Nat.le_of_ble_eq_true rfl,fun q2=>?_⟩;(conv=>whnf);repeat (refine ⟨af ⟨by omega,by omega⟩,?_⟩;conv=>whnf)
      exact ⟨_,_,ar.perm (List.perm_append_comm (l₁:=[_]) (l₂:=[_])),_,(by omega),j+1,_,[(q2,.tok)],rfl,rfl,rfl,by omega,.inr ⟨q2,by rw [aA];rfl,rfl⟩⟩
     have qb:((T.take j).map (x::·))=T.map (x::·):=(by rw [List.take_of_length_le (by omega)]);rw [BL] at qb;(conv=>whnf);repeat ((first|refine ⟨af ⟨by omega,by omega⟩,?_⟩|(refine ⟨⟨Nat.le_of_ble_eq_true rfl,Nat.le_of_ble_eq_true rfl⟩,fun b4=>?_⟩));conv=>whnf)
     have tD:ag .aW (lJ (T.map (x::·))):=by rw [<- qb];exact ag.nil (by decide)
     exact ⟨_,_,ar.trans (ar.cells (ys:=fV (T.map (x::·))) (.here _) (.cons tD .nil)) (ar.perm (List.Perm.swap _ _ _)),_,(by omega),k+1,_,[(b4,_)],rfl,rfl,rfl,by omega,.inr ⟨b4,by rw [bZ];simp,(by rw [bZ,ph];rfl),(by rw [bZ,ph];rfl)⟩⟩
    (conv=>whnf);skip;refine ⟨fun er=>?_,fun er=>?_⟩<;>simp at er
    ·obtain ⟨p,hp⟩:=aN (l:=T) (i:=j) (by omega);have qW:=tC p (List.mem_of_getElem? hp);have aA:((T.take (j+1)).map (x::·)).map db=((T.take j).map (x::·)).map db++[[.au (.int .i64 (x.cost+cp p)::(du x.word++[.au (pY p)]))]]:=by rw [dg hp,List.map_append,List.map_append];show _++[[AV.au (.int .i64 (cp (x::p))::_)]]=_;rw [vZ];rfl
     (conv=>whnf);repeat ((first|refine ⟨af ⟨by omega,by omega⟩,?_⟩|refine ix (by assumption) ?_|refine And.intro (by show aJ (aH Tryz.f98 _) _=true;decide +kernel) ?_);conv=>whnf)
     refine ⟨(by rw [List.length_append,List.length_map,mE];simp;unfold aV;omega),fun q2=>⟨_,.there (.here _),?_⟩⟩;(conv=>whnf);repeat (refine ⟨af ⟨by omega,by omega⟩,?_⟩;conv=>whnf)
     exact ⟨_,_,ar.refl _ _,_,(by omega),j+1,_,[(q2,.tok)],rfl,rfl,rfl,by omega,.inr ⟨q2,by rw [aA];rfl,rfl⟩⟩
    have qb:((T.take j).map (x::·))=T.map (x::·):=(by rw [List.take_of_length_le (by omega)]);rw [qb];(conv=>whnf);repeat ((first|refine ⟨af ⟨by omega,by omega⟩,?_⟩|(refine ⟨⟨Nat.le_of_ble_eq_true rfl,Nat.le_of_ble_eq_true rfl⟩,fun b4=>?_⟩));conv=>whnf)
    have tD:ag (.sl 1 (some q) ((T.map (x::·)).map db)) (lJ (T.map (x::·))):=ag.sl;exact ⟨_,_,ar.trans (ar.trans (ar.cells (ys:=fV (T.map (x::·))) (.here _) (.cons tD .nil)) (ar.perm (List.Perm.swap _ _ _))) (ar.drop (.there (.there (.here _)))),_,(by omega),k+1,_,[(b4,_)],rfl,rfl,rfl,by omega,.inr ⟨b4,by rw [bZ];simp,(by rw [bZ,ph];rfl),(by rw [bZ,ph];rfl)⟩⟩
   have eQ:(fW g most es).take k=fW g most es:=List.take_of_length_le (by unfold fW;rw [List.length_map];omega);have gx:=Nk hg (m:=most) bp;rw [eQ] at ph;rw [ph] at gx;(conv=>whnf);repeat (refine ae.k0 (Nq most hm) ?_;conv=>whnf)
   (conv=>whnf);repeat ((first|refine ⟨af ⟨by omega,by omega⟩,?_⟩|(refine ⟨d,af ⟨rfl,by omega⟩,?_⟩)|(refine BK ?_ (.here _) ?_;(focus (show 0+d*1<g.length+1;omega))));conv=>whnf)
   refine ⟨_,_,ar.refl _ _,_,(by omega),d,_,rfl,?_,rfl,rfl,by omega⟩;refine congrArg (fun z=>[(b,Ob.vec z)]) (xW fun j hj=>?_);unfold TT;by_cases h:j=d
   ·rw [if_pos (show j=0+d*1 by omega),if_pos (by omega),h,<- gx,Np most]
   rw [if_neg (show ¬ j=0+d*1 by omega)];by_cases h2:d+1<=j
   ·rw [if_pos h2,if_pos (by omega)]
   rw [if_neg h2,if_neg (by omega)]
  skip;have zd:((fW g most es).take k).length+1<=aV:=by rw [List.length_take];unfold aV;omega
  (conv=>whnf);repeat (refine ix (by assumption) ?_;conv=>whnf)
  refine ⟨fun bo=>?_,fun bo=>?_⟩<;>simp at bo
  ·obtain ⟨x,hx⟩:=aN bo;have lE:=hg.aP d es bp x (List.mem_of_getElem? hx);have h1:=lE.lo;have h2:=lE.hi;have mF:TT g most (d+1) (0+x.to.toNat*1)=lJ (tl g most x.to.toNat):=by unfold TT;rw [if_pos (by omega),Nat.zero_add,Nat.mul_one]
   (conv=>whnf);repeat ((first|refine ix (by assumption) ?_|(refine ⟨x.to.toNat,af ⟨by omega,by omega⟩,?_⟩)|(refine uK (lJ (tl g most x.to.toNat)) (.head _) rfl (by omega) mF ?_));conv=>whnf)
   have fQ:=Em g most x.to.toNat;have tC:=Nj hg (j:=x.to.toNat) (by omega) most;have Ek:=lE.cost;have bZ:(fW g most es).take (k+1)=(fW g most es).take k++[(tl g most x.to.toNat).map (x::·)]:=by refine dg ?_;unfold fW;rw [List.getElem?_map,hx];rfl
   obtain ⟨T,hT⟩:∃ T,T=tl g most x.to.toNat:=⟨_,rfl⟩;rw [<- hT] at fQ tC bZ;rw [<- hT];refine cy rfl mixed [0,1,5,6,7,8,9,10,11] [] (fun m r h=>∃ (j:Nat) (ov:AV) (oh:ab),r=[(0,[],.sl 1 none (g.map oW)),(1,[],.int .i64 most),(5,[],.aR b 0 (g.length+1) 1),(6,[],.int .i64 d),(7,[],.aR lb 0 ((fW g most es).take k).length 1),(8,[],.int .i64 k),(9,[],ov),(10,[],lJ T),(11,[],.int .i64 j)]/\h=(b,.vec (dY (g.length+1) (TT g most (d+1))))::([(lb,.vec (((fW g most es).take k).map fV).flatten)]++oh)/\m=T.length - j/\j<=T.length/\Out 1 db ((T.take j).map (x::·)) ov oh) ?_ ?_
   ·(conv=>whnf);exact ⟨_,_,ar.refl _ _,_,0,.aW,[],rfl,rfl,rfl,by omega,.inl ⟨rfl,rfl,rfl⟩⟩
   rintro m r h' ⟨j,ov,oh,rfl,rfl,rfl,hj,cr⟩;have mE:((T.take j).map (x::·)).length=j:=by rw [List.length_map,List.length_take];omega
   rcases cr with ⟨BL,rfl,rfl⟩|⟨q,rfl,rfl⟩
   ·(conv=>whnf);skip;refine ⟨fun er=>?_,fun er=>?_⟩<;>simp at er
    ·obtain ⟨p,hp⟩:=aN (l:=T) (i:=j) (by omega);have qW:=tC p (List.mem_of_getElem? hp);have aA:((T.take (j+1)).map (x::·)).map db=[[.au (.int .i64 (x.cost+cp p)::(du x.word++[.au (pY p)]))]]:=by rw [dg hp,List.map_append,BL];show [[AV.au (.int .i64 (cp (x::p))::_)]]=_;rw [vZ];rfl
     (conv=>whnf);repeat ((first|refine ⟨af ⟨by omega,by omega⟩,?_⟩|refine ix (by assumption) ?_|refine And.intro (by show aJ (aH Tryz.f98 _) _=true;decide +kernel) ?_);conv=>whnf)
     refine ⟨Nat.le_of_ble_eq_true rfl,fun q2=>?_⟩;(conv=>whnf);repeat (refine ⟨af ⟨by omega,by omega⟩,?_⟩;conv=>whnf)
     exact ⟨_,_,ar.perm (List.perm_append_comm (l₁:=[_]) (l₂:=[_,_])),_,(by omega),j+1,_,[(q2,.tok)],rfl,rfl,rfl,by omega,.inr ⟨q2,by rw [aA];rfl,rfl⟩⟩
    have qb:((T.take j).map (x::·))=T.map (x::·):=(by rw [List.take_of_length_le (by omega)]);rw [BL] at qb;(conv=>whnf);repeat ((first|refine ⟨af ⟨by omega,by omega⟩,?_⟩|(refine ⟨_,.tail _ (.head _),⟨rL iw,zd⟩,fun b4=>⟨_,.there (.here _),?_⟩⟩));conv=>whnf)
    have tD:ag .aW (lJ (T.map (x::·))):=by rw [<- qb];exact ag.nil (by decide)
    exact ⟨_,_,ar.trans (ar.cells (ys:=(((fW g most es).take k).map fV).flatten++(fV (T.map (x::·))++[])) (.there (.here _)) (cP.pre (.cons tD .nil) _)) (ar.refl _ _),_,(by omega),k+1,_,[(b4,_)],rfl,rfl,rfl,by omega,.inr ⟨b4,by rw [bZ];simp,(by rw [bZ,List.length_append];rfl),(by rw [bZ,List.map_append,List.flatten_append];rfl)⟩⟩
   (conv=>whnf);skip;refine ⟨fun er=>?_,fun er=>?_⟩<;>simp at er
   ·obtain ⟨p,hp⟩:=aN (l:=T) (i:=j) (by omega);have qW:=tC p (List.mem_of_getElem? hp);have aA:((T.take (j+1)).map (x::·)).map db=((T.take j).map (x::·)).map db++[[.au (.int .i64 (x.cost+cp p)::(du x.word++[.au (pY p)]))]]:=by rw [dg hp,List.map_append,List.map_append];show _++[[AV.au (.int .i64 (cp (x::p))::_)]]=_;rw [vZ];rfl
    (conv=>whnf);repeat ((first|refine ⟨af ⟨by omega,by omega⟩,?_⟩|refine ix (by assumption) ?_|refine And.intro (by show aJ (aH Tryz.f98 _) _=true;decide +kernel) ?_);conv=>whnf)
    refine ⟨(by rw [List.length_append,List.length_map,mE];simp;unfold aV;omega),fun q2=>⟨_,.there (.there (.here _)),?_⟩⟩;(conv=>whnf);repeat (refine ⟨af ⟨by omega,by omega⟩,?_⟩;conv=>whnf)
    exact ⟨_,_,ar.refl _ _,_,(by omega),j+1,_,[(q2,.tok)],rfl,rfl,rfl,by omega,.inr ⟨q2,by rw [aA];rfl,rfl⟩⟩
   have qb:((T.take j).map (x::·))=T.map (x::·):=(by rw [List.take_of_length_le (by omega)]);rw [qb];(conv=>whnf);repeat ((first|refine ⟨af ⟨by omega,by omega⟩,?_⟩|(refine ⟨_,.tail _ (.head _),⟨rL iw,zd⟩,fun b4=>⟨_,.there (.here _),?_⟩⟩));conv=>whnf)
   have tD:ag (.sl 1 (some q) ((T.map (x::·)).map db)) (lJ (T.map (x::·))):=ag.sl;exact ⟨_,_,ar.trans (ar.trans (ar.cells (ys:=(((fW g most es).take k).map fV).flatten++(fV (T.map (x::·))++[])) (.there (.here _)) (cP.pre (.cons tD .nil) _)) (ar.refl _ _)) (ar.drop (.there (.there (.here _)))),_,(by omega),k+1,_,[(b4,_)],rfl,rfl,rfl,by omega,.inr ⟨b4,by rw [bZ];simp,(by rw [bZ,List.length_append];rfl),(by rw [bZ,List.map_append,List.flatten_append];rfl)⟩⟩
  have eQ:(fW g most es).take k=fW g most es:=List.take_of_length_le (by unfold fW;rw [List.length_map];omega);have gx:=Nk hg (m:=most) bp;have UD:∀ l∈fW g most es,l.length<=65536:=by intro l BM;unfold fW at BM;obtain ⟨x,-,rfl⟩:=List.mem_map.1 BM;have:=Em g most x.to.toNat;rw [List.length_map];omega
  rw [eQ];(conv=>whnf);skip;refine ay.mono ?_ (ay.re (h2:=[(b,.vec (dY (g.length+1) (TT g most (d+1))))]) (R':=fun v H=>v=lJ (eT (fW g most es) most)/\H=[(b,.vec (dY (g.length+1) (TT g most (d+1))))]) (El (fW g most es) (List.length_pos_iff.2 (eQ ▸ tg)) (by unfold fW;rw [List.length_map];omega) UD most hm lb) (List.Perm.swap _ _ _) ?_)
  ·rintro v h1 ⟨rfl,rfl⟩;(conv=>whnf);repeat ((first|refine ⟨af ⟨by omega,by omega⟩,?_⟩|(refine ⟨d,af ⟨rfl,by omega⟩,?_⟩)|(refine BK ?_ (.here _) ?_;(focus (show 0+d*1<g.length+1;omega))));conv=>whnf)
   refine ⟨_,_,ar.refl _ _,_,(by omega),d,_,rfl,?_,rfl,rfl,by omega⟩;refine congrArg (fun z=>[(b,Ob.vec z)]) (xW fun j hj=>?_);unfold TT;by_cases h:j=d
   ·rw [if_pos (show j=0+d*1 by omega),if_pos (by omega),h,<- gx,show eT (fW g most es) most=eT (fW g most es) most from rfl]
   rw [if_neg (show ¬ j=0+d*1 by omega)];by_cases h2:d+1<=j
   ·rw [if_pos h2,if_pos (by omega)]
   rw [if_neg h2,if_neg (by omega)]
  rintro v h1 ⟨rfl,rfl⟩;exact ⟨_,.refl _,rfl,rfl⟩
 obtain rfl:a=0:=by omega
 have fQ:=Em g most 0;have Nu:=Nl hg (j:=0) (by omega) most;rw [Nn hg];have zu:TT g most 0 (0+0*1)=lJ (tl g most 0):=rfl;obtain ⟨T,hT⟩:∃ T,T=tl g most 0:=⟨_,rfl⟩;rw [<- hT] at fQ Nu zu;rw [<- hT];(conv=>whnf);skip;refine cy rfl mixed [5,12,13] [] (fun m r h=>∃ (i:Nat) (ov:AV) (oh:ab),r=[(5,[],.aR b 0 (g.length+1) 1),(12,[],ov),(13,[],.int .i64 i)]/\h=(b,.vec (dY (g.length+1) (TT g most 0)))::oh/\m=T.length - i/\i<=T.length/\Out 2 om ((T.take i).map wc) ov oh) ?_ ?_
 ·(conv=>whnf);exact ⟨_,_,ar.refl _ _,_,0,.aW,[],rfl,rfl,rfl,by omega,.inl ⟨rfl,rfl,rfl⟩⟩
 rintro m r h' ⟨i,ov,oh,rfl,rfl,rfl,hi,ho⟩;(conv=>whnf);repeat ((first|(refine iK (i:=0) (by omega) ?_)|(refine uK (lJ T) (.head _) rfl (by omega) zu ?_));conv=>whnf)
 refine ⟨fun aD=>?_,fun aD=>?_⟩<;>simp at aD
 ·obtain ⟨p,hp⟩:=aN (l:=T) (i:=i) (by omega);obtain ⟨dN,GN⟩:=Nu p (List.mem_of_getElem? hp);have mE:((T.take i).map wc).length=i:=by rw [List.length_map,List.length_take];omega
  have rY:((T.take (i+1)).map wc).map om=((T.take i).map wc).map om++[[.sl 4 none ((p.map (·.word)).map du),.int .i64 (cp p)]]:=by rw [dg hp,List.map_append,List.map_append];rfl
  rcases ho with ⟨ph,rfl,rfl⟩|⟨q,rfl,rfl⟩
  ·skip;(conv=>whnf);repeat ((first|refine ix (by assumption) ?_|(intro (rb:Nat))|(refine iK (i:=0) (by omega) ?_)|(refine uK (lJ T) (.head _) rfl (by omega) zu ?_)|(refine uK (lJ T) (.tail _ (.head _)) rfl (by omega) zu ?_)|refine ⟨_,_,.here _,aF,?_⟩);conv=>whnf)
   refine cy rfl mixed [5,12,13,14,15] [] (fun m r h=>∃ (pc L:List az) (wv:AV) (wh:ab) (rb:Nat),r=[(5,[],.aR b 0 (g.length+1) 1),(12,[],.aW),(13,[],.int .i64 i),(14,[],.bn rb 0),(15,[],.au (pY pc))]/\h=(rb,.vec [wv,.int .i64 (cp p)])::(b,.vec (dY (g.length+1) (TT g most 0)))::([]++wh)/\m=pc.length/\p=L++pc/\Out 4 du (L.map (·.word)) wv wh) ?_ ?_
   ·(conv=>whnf);exact ⟨_,_,ar.refl _ _,_,p,[],.aW,[],rb,rfl,rfl,rfl,rfl,.inl ⟨rfl,rfl,rfl⟩⟩
   rintro m r h' ⟨pc,L,wv,wh,rb,rfl,rfl,rfl,gU,hw⟩;cases pc with
   | nil=>
     have HQ:p=L:=(by rw [gU,List.append_nil]);have HR:ag wv (.sl 4 none ((p.map (·.word)).map du)):=by rw [HQ];exact hw.le (by decide)
     (conv=>whnf);skip;refine ⟨fun hz=>absurd hz (by decide),fun _=>?_⟩;(conv=>whnf);repeat ((first|refine ⟨af ⟨by omega,by omega⟩,?_⟩|(refine ⟨Nat.le_of_ble_eq_true rfl,fun q2=>?_⟩)|refine ⟨_,_,.head _,rfl,?_⟩);conv=>whnf)
     exact ⟨_,_,ar.trans (ar.qP (.cons (ag.refl _) (.cons (ag.nx (.cons (.cons HR (.cons (ag.refl _) .nil)) .nil)) (je.refl _)))) (ar.trans (ar.perm (List.perm_middle (l₁:=[_,_]))) (ar.left (A:=[(b,.vec (dY (g.length+1) (TT g most 0))),(q2,.tok)]) (Z:=(rb,.vec [wv,.int .i64 (cp p)])::wh))),_,(by omega),i+1,_,[(q2,.tok)],rfl,rfl,rfl,by omega,.inr ⟨q2,(by rw [rY,ph];rfl),rfl⟩⟩
   | cons x r=>
     have oq:=GN x (by rw [gU];simp);have tm:(L.map (·.word)).length<=60:=by rw [gU] at dN;simp at dN;rw [List.length_map];omega
     (conv=>whnf);skip;refine ⟨fun _=>?_,fun hz=>absurd hz (by decide)⟩;rcases hw with ⟨HS,rfl,rfl⟩|⟨q3,rfl,rfl⟩
     ·(conv=>whnf);repeat ((first|refine aX (Ep x.word (by have:=oq.cl;unfold aV;omega) (by have:=oq.us;unfold aV;omega)) ?_|refine ⟨_,_,.head _,rfl,?_⟩|refine And.intro (by show aJ (aH Tryz.f98 _) _=true;decide +kernel) ?_);conv=>whnf)
      refine ⟨Nat.le_of_ble_eq_true rfl,fun q4=>?_⟩;(conv=>whnf);repeat (refine ⟨_,_,.there (.here _),aF,?_⟩;conv=>whnf)
      exact ⟨_,_,ar.perm (List.perm_append_comm (l₁:=[_]) (l₂:=[_,_])),_,Nat.lt_succ_self _,r,L++[x],_,[(q4,.tok)],rb,rfl,rfl,rfl,by rw [gU,List.append_assoc];rfl,.inr ⟨q4,by rw [List.map_append,HS];rfl,rfl⟩⟩
     (conv=>whnf);repeat ((first|refine aX (Ep x.word (by have:=oq.cl;unfold aV;omega) (by have:=oq.us;unfold aV;omega)) ?_|refine ⟨_,_,.head _,rfl,?_⟩|refine And.intro (by show aJ (aH Tryz.f98 _) _=true;decide +kernel) ?_);conv=>whnf)
     refine ⟨(by rw [List.length_append,List.length_map];simp at tm ⊢;unfold aV;omega),fun q4=>⟨_,.there (.there (.here _)),?_⟩⟩;(conv=>whnf);repeat (refine ⟨_,_,.here _,aF,?_⟩;conv=>whnf)
     exact ⟨_,_,ar.refl _ _,_,Nat.lt_succ_self _,r,L++[x],_,[(q4,.tok)],rb,rfl,rfl,rfl,by rw [gU,List.append_assoc];rfl,.inr ⟨q4,by rw [List.map_append,List.map_append];rfl,rfl⟩⟩
  skip;(conv=>whnf);repeat ((first|refine ix (by assumption) ?_|(intro (rb:Nat))|(refine iK (i:=0) (by omega) ?_)|(refine uK (lJ T) (.head _) rfl (by omega) zu ?_)|(refine uK (lJ T) (.tail _ (.head _)) rfl (by omega) zu ?_)|refine ⟨_,_,.here _,aF,?_⟩);conv=>whnf)
  refine cy rfl mixed [5,12,13,14,15] [] (fun m r h=>∃ (pc L:List az) (wv:AV) (wh:ab) (rb:Nat),r=[(5,[],.aR b 0 (g.length+1) 1),(12,[],.sl 2 (some q) (((T.take i).map wc).map om)),(13,[],.int .i64 i),(14,[],.bn rb 0),(15,[],.au (pY pc))]/\h=(rb,.vec [wv,.int .i64 (cp p)])::(b,.vec (dY (g.length+1) (TT g most 0)))::([(q,.tok)]++wh)/\m=pc.length/\p=L++pc/\Out 4 du (L.map (·.word)) wv wh) ?_ ?_
  ·(conv=>whnf);exact ⟨_,_,ar.refl _ _,_,p,[],.aW,[],rb,rfl,rfl,rfl,rfl,.inl ⟨rfl,rfl,rfl⟩⟩
  rintro m r h' ⟨pc,L,wv,wh,rb,rfl,rfl,rfl,gU,hw⟩;cases pc with
  | nil=>
    have HQ:p=L:=(by rw [gU,List.append_nil]);have HR:ag wv (.sl 4 none ((p.map (·.word)).map du)):=by rw [HQ];exact hw.le (by decide)
    (conv=>whnf);skip;refine ⟨fun hz=>absurd hz (by decide),fun _=>?_⟩;(conv=>whnf);repeat ((first|refine ⟨af ⟨by omega,by omega⟩,?_⟩|(refine ⟨(by rw [List.length_append,List.length_map,mE];simp;unfold aV;omega),fun q2=>⟨_,.there (.there (.here _)),?_⟩⟩)|refine ⟨_,_,.head _,rfl,?_⟩);conv=>whnf)
    exact ⟨_,_,ar.trans (ar.qP (.cons (ag.refl _) (.cons (ag.nx (iy.pre (.cons (.cons HR (.cons (ag.refl _) .nil)) .nil) _)) (je.refl _)))) (ar.trans (ar.perm (List.perm_middle (l₁:=[_,_])).symm) (ar.left (A:=[(b,.vec (dY (g.length+1) (TT g most 0))),(q2,.tok)]) (Z:=(rb,.vec [wv,.int .i64 (cp p)])::wh))),_,(by omega),i+1,_,[(q2,.tok)],rfl,rfl,rfl,by omega,.inr ⟨q2,(by rw [rY]),rfl⟩⟩
  | cons x r=>
    have oq:=GN x (by rw [gU];simp);have tm:(L.map (·.word)).length<=60:=by rw [gU] at dN;simp at dN;rw [List.length_map];omega
    (conv=>whnf);skip;refine ⟨fun _=>?_,fun hz=>absurd hz (by decide)⟩;rcases hw with ⟨HS,rfl,rfl⟩|⟨q3,rfl,rfl⟩
    ·(conv=>whnf);repeat ((first|refine aX (Ep x.word (by have:=oq.cl;unfold aV;omega) (by have:=oq.us;unfold aV;omega)) ?_|refine ⟨_,_,.head _,rfl,?_⟩|refine And.intro (by show aJ (aH Tryz.f98 _) _=true;decide +kernel) ?_);conv=>whnf)
     refine ⟨Nat.le_of_ble_eq_true rfl,fun q4=>?_⟩;(conv=>whnf);repeat (refine ⟨_,_,.there (.here _),aF,?_⟩;conv=>whnf)
     exact ⟨_,_,ar.perm (List.perm_append_comm (l₁:=[_]) (l₂:=[_,_,_])),_,Nat.lt_succ_self _,r,L++[x],_,[(q4,.tok)],rb,rfl,rfl,rfl,by rw [gU,List.append_assoc];rfl,.inr ⟨q4,by rw [List.map_append,HS];rfl,rfl⟩⟩
    (conv=>whnf);repeat ((first|refine aX (Ep x.word (by have:=oq.cl;unfold aV;omega) (by have:=oq.us;unfold aV;omega)) ?_|refine ⟨_,_,.head _,rfl,?_⟩|refine And.intro (by show aJ (aH Tryz.f98 _) _=true;decide +kernel) ?_);conv=>whnf)
    refine ⟨(by rw [List.length_append,List.length_map];simp at tm ⊢;unfold aV;omega),fun q4=>⟨_,.there (.there (.there (.here _))),?_⟩⟩;(conv=>whnf);repeat (refine ⟨_,_,.here _,aF,?_⟩;conv=>whnf)
    exact ⟨_,_,ar.refl _ _,_,Nat.lt_succ_self _,r,L++[x],_,[(q4,.tok)],rb,rfl,rfl,rfl,by rw [gU,List.append_assoc];rfl,.inr ⟨q4,by rw [List.map_append,List.map_append];rfl,rfl⟩⟩
 have qb:T.take i=T:=List.take_of_length_le (by omega);rw [qb] at ho;(conv=>whnf);skip;exact ho.le (by decide)
end Go.Abs.Wall.Lst
namespace Go.Abs.Wall.Lst
open Go Go.Abs Go.Proofs Go.Abs.Wall
def rZ:tB:=⟨[],0⟩
def lK (H:ax) (line:List Int):tB:=(fx H line 1).headD rZ
theorem HT {g:List (List az)} {m:Nat} (hm:1<=m):jk g m=[]↔bu g 0=[]:=by
 unfold jk;rw [List.map_eq_nil_iff];cases bu g 0 with
 | nil=>simp
 | cons p r=>cases m with
   | zero=>omega
   | succ m=>simp
def c145:aw:=⟨[0,1,2,3,6,7,8,9,10,18,25,31],[],[],[],[],[]⟩
def c46:aw:=⟨[0,1,2,4,5,6,7,15],[],[],[],[],[]⟩
def c88:aw:=⟨[0,1,2,4,5,6,7,15],[],[],[],[],[]⟩
theorem UE (H:ax) (line:List Int) (most:Int) (hf:eP H) (hl:line.length<=1048576) :
  ae Tryz.prog 145 [.agg (bJ H),.sl 1 none (ints line),.int .i64 most] [] (.aQ [.sl 2 none ((fx H line most).map om),.int .i64 (ew H line most)]):=by
 refine ae.of ?_;refine aG (F:=Tryz.f145) c145 rfl rfl rfl mixed rfl fun X=>?_;(conv=>whnf);repeat (refine ae.k0 (TY H line hf hl) ?_;conv=>whnf)
 refine ⟨fun h0=>?_,fun h0=>?_⟩<;>simp at h0
 ·have he:ew H line most=ed H line:=by unfold ew;rw [if_pos h0]
  (conv=>whnf);skip;unfold fx;rw [he,if_neg h0];exact ag.aQ (.cons (ag.nil (by decide)) (.cons (ag.refl _) .nil))
 obtain ⟨hL,vU,hg⟩:=Bo h0;obtain ⟨g,pf⟩:∃ g,g=dn H line:=⟨_,rfl⟩;have UF:vT H line=g:=(by rw [vT,if_pos h0,pf]);have jG:ew H line most=if 1<=most/\most<=64 then (if bu g 0=[] then 52 else 0) else 1:=by unfold ew;rw [if_neg (by omega),pf]
 have ep:fx H line most=if ew H line most=0 then jk g most.toNat else []:=by unfold fx;rw [pf]
 rw [<- pf] at hg vU;rw [UF,h0];(conv=>whnf);skip;refine ⟨fun hm=>?_,fun hm=>?_⟩<;>simp at hm
 ·(conv=>whnf);skip;rw [ep,jG,if_neg (show ¬ (1<=most/\most<=64) by omega),if_neg (by decide)];exact ag.aQ (.cons (ag.nil (by decide)) (.cons (ag.refl _) .nil))
 have HU:1<=most/\most<=64:=(by omega);rw [if_pos HU] at jG;obtain ⟨m,rfl⟩:∃ m:Nat,most=(m:Int):=⟨most.toNat,by omega⟩;(conv=>whnf);repeat (refine ae.k0 (UB g hg m (by omega) (by omega)) ?_;conv=>whnf)
 refine ⟨fun hz=>?_,fun hz=>?_⟩<;>simp at hz
 ·have eX:bu g 0=[]:=(HT (by omega)).1 hz;(conv=>whnf);skip;rw [ep,jG,if_pos eX,if_neg (by decide)];exact ag.aQ (.cons (ag.nil (by decide)) (.cons (ag.refl _) .nil))
 have eX:bu g 0≠[]:=fun e=>hz ((HT (by omega)).2 e);(conv=>whnf);skip;rw [ep,jG,if_neg eX,if_pos rfl];exact ag.refl _
theorem HV {H:ax} {line:List Int} (h:ew H line 1=0):∃ r l,fx H line 1=r::l/\lK H line=r:=by
 have hl:fx H line 1=jk (dn H line) (1:Int).toNat:=by unfold fx;rw [if_pos h]
 unfold ew at h;split at h
 ·rename_i h1;exact absurd h h1
 rw [if_pos (by decide)] at h;split at h
 ·cases h
 rename_i h2;cases hr:fx H line 1 with
 | nil=>rw [hl] at hr;exact absurd ((HT (by decide)).1 hr) h2
 | cons r l=>exact ⟨r,l,rfl,by unfold lK;rw [hr];rfl⟩
theorem xX {H:ax} {line:List Int} (h:ew H line 1≠0):lK H line=rZ:=by unfold lK fx;rw [if_neg h];rfl
theorem xY (H:ax) (line:List Int) (hf:eP H) (hl:line.length<=1048576) :
  ae Tryz.prog 46 [.agg (bJ H),.sl 1 none (ints line)] [] (.aQ [.agg (om (lK H line)),.int .i64 (ew H line 1)]):=by
 refine ae.of ?_;refine aG (F:=Tryz.f46) c46 rfl rfl rfl mixed rfl fun X=>?_;(conv=>whnf);intro rb;(conv=>whnf);repeat (refine ae.k0 (Us H line 1 hf hl) ?_;conv=>whnf)
 refine ⟨fun hz=>?_,fun hz=>?_⟩<;>simp at hz
 ·(conv=>whnf);repeat ((first|(refine ⟨_,_,.here _,aF,?_⟩)|refine ⟨_,_,.head _,rfl,?_⟩);conv=>whnf)
  rw [xX hz];exact ag.aQ (.cons (ag.agg (.cons (ag.nil (by decide)) (.cons (ag.refl _) .nil))) (.cons (ag.refl _) .nil))
 obtain ⟨r,l,h1,h2⟩:=HV hz;rw [h1,h2,hz];(conv=>whnf);repeat ((first|(refine cj (enc:=om) 0 rfl rfl ?_)|refine ⟨_,_,.head _,rfl,?_⟩|refine ⟨_,_,.here _,aF,?_⟩);conv=>whnf)
 exact ag.refl _
theorem Er (H:ax) (line:List Int) (hf:eP H) (hl:line.length<=1048576) :
  ae Tryz.prog 88 [.agg (bJ H),.sl 1 none (ints line)] [] (.aQ [.agg (om (lK H line)),.int .i64 (ew H line 1)]):=by
 refine ae.of ?_;refine aG (F:=Tryz.f88) c88 rfl rfl rfl mixed rfl fun X=>?_;(conv=>whnf);intro rb;(conv=>whnf);repeat (refine ae.k0 (UE H line 1 hf hl) ?_;conv=>whnf)
 refine ⟨fun hz=>?_,fun hz=>?_⟩<;>simp at hz
 ·(conv=>whnf);repeat ((first|(refine ⟨_,_,.here _,aF,?_⟩)|refine ⟨_,_,.head _,rfl,?_⟩);conv=>whnf)
  rw [xX hz];exact ag.aQ (.cons (ag.agg (.cons (ag.nil (by decide)) (.cons (ag.refl _) .nil))) (.cons (ag.refl _) .nil))
 obtain ⟨r,l,h1,h2⟩:=HV hz;rw [h1,h2,hz];(conv=>whnf);repeat ((first|(refine cj (enc:=om) 0 rfl rfl ?_)|refine ⟨_,_,.head _,rfl,?_⟩|refine ⟨_,_,.here _,aF,?_⟩);conv=>whnf)
 exact ag.refl _
def zw (r:tB):Prop:=r.words.length<=60/\∀ w∈r.words,od w
theorem UG {H:ax} {line:List Int} {most:Int}:∀ r∈fx H line most,zw r:=by
 unfold fx;split
 ·rename_i he
  have h0:ed H line=0:=by
   unfold ew at he;split at he
   ·rename_i h1;exact absurd he h1
   rename_i h1;simpa using h1
  obtain ⟨hL,vU,hg⟩:=Bo h0;intro r hr;rw [Nn hg] at hr;obtain ⟨p,hp,rfl⟩:=List.mem_map.1 hr;obtain ⟨h1,h2⟩:=Nl hg (j:=0) (by omega) _ p hp;refine ⟨by show (p.map _).length<=60;rw [List.length_map];exact h1,fun w hw=>?_⟩;obtain ⟨x,hx,rfl⟩:=List.mem_map.1 hw;exact h2 x hx
 simp
theorem Es {H:ax} {line:List Int}:zw (lK H line):=by
 by_cases h:ew H line 1=0
 ·obtain ⟨r,l,h1,h2⟩:=HV h;rw [h2];exact UG r (by rw [h1];simp)
 rw [xX h];exact ⟨by decide,fun w hw=>by cases hw⟩
end Go.Abs.Wall.Lst
