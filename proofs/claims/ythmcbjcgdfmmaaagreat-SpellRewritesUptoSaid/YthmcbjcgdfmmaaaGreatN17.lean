/- Small laws for the walks and contracts of functions; each theorem names its conditions. -/
import Derived.Test.YthmcbjcgdfmmaaaGreatN16
import Derived.Test.YthmcbjcgdfmmaaaGreatN14
set_option maxRecDepth 100000
set_option maxHeartbeats 2000000
namespace Go.Abs.Wall.Lst
open Go Go.Abs Go.Proofs Go.Abs.Wall
theorem Og {m:Nat} {rs:Nat->Nat} (h:∀ j,rs j<m):∀ {ls:List (List Int)} {k:Nat},kO rs (ls.map (·.take m)) k=kO rs ls k
 | [],k=>rfl
 | l::ls,k=>by rw [List.map_cons];unfold kO;rw [Og h,List.getElem?_take_of_lt (h k)]
theorem Oh {m:Nat} {rs:Nat->Nat} {cls:List (List Int)} (h:∀ j,rs j<m):fK (cls.map (·.take m)) rs=fK cls rs:=Og h
theorem Oi (cls:List (List Int)) (m:Nat):∀ t,t<=m->dz (cls.map (·.take m)) t=dz cls t
 | 0,_=>rfl
 | t+1,ht=>by have ih:=Oi cls m t (by omega);unfold dz at ih ⊢;rw [yE,yE,ih,Oh fun j=>by have:=Iv cls t j;unfold dz at this;omega]
theorem Oj (cls:List (List Int)) (m:Nat):(aW (cls.map (·.take m))).take m=(aW cls).take m:=by
 refine List.ext_getElem? fun t=>?_;by_cases h:t<m
 ·rw [List.getElem?_take_of_lt h,List.getElem?_take_of_lt h,kP,kP,Oi cls m t (by omega)];exact Oh fun j=>by have:=Iv cls t j;omega
 rw [List.getElem?_take_eq_none (by omega),List.getElem?_take_eq_none (by omega)]
def tl (g:List (List ar)) (m j:Nat):List (List ar):=((bz g j).take m).map (·.2)
theorem Vf (g:List (List ar)) {m:Nat} (hm:1<=m):tl g m g.length=[[]]:=by unfold tl;rw [yH,List.take_of_length_le (by simpa using hm)];rfl
theorem Fx (g:List (List ar)) (m j:Nat):(tl g m j).length<=m:=by unfold tl;rw [List.length_map,List.length_take];omega
theorem yQ (x:ar) (p:List ar):cA (x::p)=x.cost+cA p:=by unfold cA;rw [List.map_cons,List.sum_cons]
theorem Fy {g:List (List ar)} (hg:fJ g):∀ (d i:Nat),i+d=g.length->∀ p∈bz g i,cA p.2=p.1:=by
 intro d;induction d using Nat.strongRecOn with
 | _ d ih=>
   intro i hi p hp;by_cases h:i<g.length
   ·obtain ⟨es,bp⟩:=aF h;have hE:=hg.aR i es bp;rw [wM bp hE,List.mem_map] at hp;obtain ⟨w,hw,rfl⟩:=hp;rw [IG];obtain ⟨t,ht⟩:=List.mem_iff_getElem?.1 hw;obtain ⟨_,l,h2,h3⟩:=mG ht;unfold dE at h2;rw [List.getElem?_map] at h2;cases hx:es[w.aR]? with
    | none=>rw [hx] at h2;cases h2
    | some x=>
      rw [hx] at h2;cases h2
      have ho:=hE x (List.mem_of_getElem? hx);unfold pB at h3;rw [List.getElem?_map] at h3;cases hq:(bz g x.to.toNat)[w.aO]? with
      | none=>rw [hq] at h3;cases h3
      | some q=>
        rw [hq] at h3;have h3:x.cost+q.1=w.cost:=(by simpa using h3);have h5:=ho.lo;have h6:=ho.hi;have:=ih (g.length - x.to.toNat) (by omega) x.to.toNat (by omega) q (List.mem_of_getElem? hq);unfold nR;rw [hx];show cA (x::((bz g x.to.toNat).getD w.aO (0,[])).2)=_;rw [List.getD_eq_getElem?_getD,hq];show cA (x::q.2)=_;rw [yQ,this,h3]
   have:i=g.length:=(by omega);subst this;rw [yH] at hp;simp at hp;subst hp;rfl
theorem Ol {g:List (List ar)} (hg:fJ g) {j:Nat} (hj:j<=g.length) (m:Nat):∀ p∈tl g m j,0<=cA p/\cA p<=1080000:=by intro p hp;unfold tl at hp;obtain ⟨q,hq,rfl⟩:=List.mem_map.1 hp;have hq:=List.mem_of_mem_take hq;have h1:=NU hg (g.length - j) j (by omega) q hq;have h2:=Fy hg (g.length - j) j (by omega) q hq;have:=hg.bB;rw [h2];omega
def gi (g:List (List ar)) (m:Nat) (es:List ar):List (List (List ar)):=es.map fun x=>(tl g m x.to.toNat).map (x::·)
theorem Vg {g:List (List ar)} (hg:fJ g) {m i:Nat} {es:List ar} (bp:g[i]?=some es):cD (gi g m es)=(dE g es).map (·.take m):=by unfold cD gi dE;rw [List.map_map,List.map_map];refine List.map_congr_left fun x hx=>?_;have ho:=hg.aR i es bp x hx;have h5:=ho.lo;have h6:=ho.hi;show ((tl g m x.to.toNat).map (x::·)).map cA=(pB x (bz g x.to.toNat)).take m;unfold tl pB;rw [List.map_map,List.map_map,<- List.map_take];refine List.map_congr_left fun p hp=>?_;show cA (x::p.2)=x.cost+p.1;rw [yQ,Fy hg (g.length - x.to.toNat) _ (by omega) p (List.mem_of_mem_take hp)]
theorem Om {g:List (List ar)} (hg:fJ g) {m i:Nat} {es:List ar} (bp:g[i]?=some es):cI (gi g m es) m=tl g m i:=by
 have hE:=hg.aR i es bp;unfold cI;rw [Vg hg bp,Oj];unfold tl;rw [wM bp hE,<- List.map_take,List.map_map];refine List.map_congr_left fun w hw=>?_;obtain ⟨t,ht⟩:=List.mem_iff_getElem?.1 hw;have yl:t<m:=by have:=(List.getElem?_eq_some_iff.1 ht).1;rw [List.length_take] at this;omega
 rw [List.getElem?_take_of_lt yl] at ht;have hr:=Ck ht;obtain ⟨_,l,h2,h3⟩:=mG ht;unfold dE at h2;rw [List.getElem?_map] at h2;cases hx:es[w.aR]? with
 | none=>rw [hx] at h2;cases h2
 | some x=>
   rw [hx] at h2;cases h2
   unfold pB at h3;rw [List.getElem?_map] at h3;cases hq:(bz g x.to.toNat)[w.aO]? with
   | none=>rw [hq] at h3;cases h3
   | some q=>
     show eL (gi g m es) w=(nR es (fun x=>bz g x.to.toNat) w).2;unfold eL gi nR;rw [List.getD_eq_getElem?_getD,List.getD_eq_getElem?_getD,List.getElem?_map,hx];show (((tl g m x.to.toNat).map (x::·))[w.aO]?).getD []=x::((bz g x.to.toNat).getD w.aO (0,[])).2;unfold tl;rw [List.getD_eq_getElem?_getD,hq,List.getElem?_map,List.getElem?_map,List.getElem?_take_of_lt (by omega),hq];rfl
def c51:av:=⟨[0,1,2],[1],[2],[],[],[]⟩
def c23:av:=⟨[0,1,4,5,6,7,8,9,10,11,12,13,14,15,31,40,57,108,131],[],[],[],[(15,[0,1,2,3,4,5,6,7,8,9,10,11,12,13,14,15,16,17,18,19,20,21,22,23,24,25,26,27,28,29,30,31,32,33],[]),(26,[0,1,2,3,4,5,6,7,8,9,10],[])],[]⟩
theorem Fz (w:eJ) (h1:w.form.ao.length<=aN) (h2:w.ay.length<=aN):ab Tryz.prog 51 [.agg (cG w)] [] (.agg (cG w)):=by
 refine ab.of ?_;refine aA (F:=Tryz.f51) c51 rfl rfl rfl mixed rfl fun X=>?_;(conv=>whnf);intro b1;(conv=>whnf);intro b2;(conv=>whnf);repeat ((first|(refine ⟨(by rw [cO];exact h1),fun q1=>?_⟩)|(refine ⟨(by rw [List.length_map];exact h2),fun q2=>?_⟩)|(refine ⟨_,_,.there (.there (.here _)),aI,?_⟩)|(refine ⟨_,_,.there (.there (.there (.here _))),aI,?_⟩)|(refine ⟨_,_,.tail _ (.tail _ (.head _)),rfl,?_⟩)|(refine ⟨_,_,.tail _ (.tail _ (.tail _ (.head _))),rfl,?_⟩)|refine ⟨_,_,.tail _ (.head _),rfl,?_⟩);conv=>whnf)
 refine ⟨_,_,.there (.there (.here _)),⟨Nat.le_of_ble_eq_true rfl,rfl⟩,?_⟩;exact aa.agg (.cons (aa.refl _) (.cons (aa.refl _) (.cons aa.sl (.cons aa.sl .nil))))
end Go.Abs.Wall.Lst
namespace Go.Abs.Wall.Lst
open Go Go.Abs Go.Proofs Go.Abs.Wall
theorem On {g:List (List ar)} (hg:fJ g):∀ (d i:Nat),i+d=g.length->∀ p∈bz g i,p.2.length<=d/\∀ x∈p.2,nE x.word:=by
 intro d;induction d using Nat.strongRecOn with
 | _ d ih=>
   intro i hi p hp;by_cases h:i<g.length
   ·obtain ⟨es,bp⟩:=aF h;have hE:=hg.aR i es bp;rw [wM bp hE,List.mem_map] at hp;obtain ⟨w,hw,rfl⟩:=hp;unfold nR;cases hx:es[w.aR]? with
    | none=>exact ⟨Nat.zero_le _,fun x hx=>by cases hx⟩
    | some x=>
      have ho:=hE x (List.mem_of_getElem? hx);have h5:=ho.lo;have h6:=ho.hi;show (x::((bz g x.to.toNat).getD w.aO (0,[])).2).length<=d/\∀ y∈x::((bz g x.to.toNat).getD w.aO (0,[])).2,nE y.word;rw [List.getD_eq_getElem?_getD];cases hq:(bz g x.to.toNat)[w.aO]? with
      | none=>
        refine ⟨by simp;omega,fun y hy=>?_⟩;rw [List.mem_singleton.1 hy];exact ho.fit
      | some q=>
        obtain ⟨h7,h8⟩:=ih (g.length - x.to.toNat) (by omega) x.to.toNat (by omega) q (List.mem_of_getElem? hq);refine ⟨by show q.2.length+1<=d;omega,fun y hy=>?_⟩;rcases List.mem_cons.1 hy with rfl|hy
        ·exact ho.fit
        exact h8 y hy
   have:i=g.length:=(by omega);subst this;rw [yH] at hp;simp at hp;subst hp;exact ⟨Nat.zero_le _,fun x hx=>by cases hx⟩
theorem Oo {g:List (List ar)} (hg:fJ g) {j:Nat} (hj:j<=g.length) (m:Nat):∀ p∈tl g m j,p.length<=60/\∀ x∈p,nE x.word:=by intro p hp;unfold tl at hp;obtain ⟨q,hq,rfl⟩:=List.mem_map.1 hp;obtain ⟨h1,h2⟩:=On hg (g.length - j) j (by omega) q (List.mem_of_mem_take hq);have:=hg.bB;exact ⟨by omega,h2⟩
def lG (l:List (List ar)):AV:=.sl 1 none (l.map ch)
def TT (g:List (List ar)) (m a j:Nat):AV:=if a<=j then lG (tl g m j) else .aS
def wT (p:List ar):ue:=⟨p.map (·.word),cA p⟩
theorem Oq {g:List (List ar)} (hg:fJ g) (m:Nat):jo g m=(tl g m 0).map wT:=by unfold jo tl;rw [List.map_map];refine List.map_congr_left fun p hp=>?_;show kT p=wT p.2;unfold kT wT;rw [Fy hg g.length 0 (by omega) p (List.mem_of_mem_take hp)]
theorem wU (m:Nat):cI [] m=[]:=by unfold cI cD aW;simp [pA,gen]
theorem wV (most:Nat) (hm:most<=64):ab Tryz.prog 50 [.gu,.int .i64 most] [] (lG []):=by
 refine ab.of ?_;refine aA (F:=Tryz.f50) c50 rfl rfl rfl mixed rfl fun X=>?_;(conv=>whnf);skip;refine bS rfl mixed [0,1,5] [] (fun m r h=>r=[(0,[],.gu),(1,[],.int .i64 most),(5,[],.aS)]/\h=[]/\m=0/\True) ?_ ?_
 ·(conv=>whnf);exact ⟨_,rfl,rfl,rfl,trivial⟩
 rintro m r h' ⟨rfl,rfl,rfl,-⟩;(conv=>whnf);skip;refine ⟨fun hz=>?_,fun hz=>?_⟩<;>simp at hz
 ·(conv=>whnf);skip;refine bS rfl mixed [0,1,5,6,7] [] (fun m r h=>r=[(0,[],.gu),(1,[],.int .i64 most),(5,[],.aS),(6,[],.int .i64 (-1)),(7,[],.int .i64 0)]/\h=[]/\m=0/\True) ?_ ?_
  ·(conv=>whnf);exact ⟨_,rfl,rfl,rfl,trivial⟩
  rintro m r h' ⟨rfl,rfl,rfl,-⟩;(conv=>whnf);skip;refine ⟨fun cx=>absurd (of_decide_eq_true cx) (by omega),fun _=>?_⟩;(conv=>whnf);skip;refine ⟨fun _=>?_,fun bx=>absurd bx (by decide)⟩;(conv=>whnf);skip;exact aa.nil (by decide)
 (conv=>whnf);skip;exact aa.nil (by decide)
theorem _root_.Go.Abs.cu.pre {a b:List AV} (h:cu a b):∀ xs:List AV,cu (xs++a) (xs++b)
 | []=>h
 | x::xs=>.cons (aa.refl x) (cu.pre h xs)
theorem gz.pre {a b:List (List AV)} (h:gz a b):∀ xs:List (List AV),gz (xs++a) (xs++b)
 | []=>h
 | x::xs=>.cons (cu.refl x) (gz.pre h xs)
theorem ah.left {r:aC} {A Z:af}:ah r (A++Z) r A:=
 ah.sub (fun k o hm=>List.mem_append_left _ hm) fun hn=>by unfold keys at hn ⊢;rw [List.map_append] at hn;exact (List.nodup_append.1 hn).1
def wW (L:List (List (List ar))) (v:AV) (hp:af):Prop:=(L=[]/\v=.gu/\hp=[])\/∃ lb,L≠[]/\v=.aQ lb 0 L.length 1/\hp=[(lb,.vec (L.map ck).flatten)]
set_option maxHeartbeats 2000000 in
theorem Ot (g:List (List ar)) (hg:fJ g) (most:Nat) (vn:1<=most) (hm:most<=64):ab Tryz.prog 23 [.sl 1 none (g.map kg),.int .i64 most] [] (.sl 2 none ((jo g most).map km)):=by
 have dG:=hg.bB;refine ab.of ?_;refine aA (F:=Tryz.f23) c23 rfl rfl rfl mixed rfl fun X=>?_;(conv=>whnf);repeat ((first|(refine ⟨ag ⟨by rw [List.length_map];omega,by rw [List.length_map];omega⟩,?_⟩)|(refine ⟨⟨rfl,by rw [List.length_map];omega,by rw [List.length_map];omega⟩,fun b=>?_⟩));conv=>whnf)
 rw [show (((g.map kg).length:Int)+1).toNat=g.length+1 by rw [List.length_map];omega,show gS (g.length+1) [AV.aS]=dq (g.length+1) (fun _=>.aS) from Je _ _];repeat ((first|(refine ⟨g.length,ag ⟨by rw [List.length_map],by omega⟩,?_⟩)|(refine yR ?_ (.here _) ?_;(focus (show 0+g.length*1<g.length+1;omega)))|(refine ⟨ag ⟨by rw [List.length_map];omega,by rw [List.length_map];omega⟩,?_⟩));conv=>whnf)
 refine bD rfl mixed [0,1,5,6] [] (fun m r h=>∃ (a:Nat) (c:Int),r=[(0,[],.sl 1 none (g.map kg)),(1,[],.int .i64 most),(5,[],.aQ b 0 (g.length+1) 1),(6,[],.int .i64 c)]/\h=[(b,.vec (dq (g.length+1) (TT g most a)))]/\m=a/\c=(a:Int) - 1/\a<=g.length) ?_ ?_
 ·(conv=>whnf);refine ⟨_,_,ah.refl _ _,_,g.length,_,rfl,?_,rfl,by rw [List.length_map],by omega⟩;refine congrArg (fun z=>[(b,Ob.vec z)]) (vp fun j hj=>?_);unfold TT;by_cases h:j=g.length
  ·rw [if_pos (show j=0+g.length*[AV.aS].length by simp;omega),if_pos (by omega),h,Vf g vn];rfl
  rw [if_neg (show ¬ j=0+g.length*[AV.aS].length by simp;omega),if_neg (by omega)]
 rintro a r h' ⟨a',c,rfl,rfl,rfl,lD,ha⟩;(conv=>whnf);refine ⟨fun dg=>?_,fun dg=>?_⟩<;>simp at dg
 ·obtain ⟨d,rfl⟩:∃ d,a=d+1:=⟨a - 1,by omega⟩;have Jf:c=(d:Int):=(by omega);subst Jf;obtain ⟨es,bp⟩:=aF (l:=g) (i:=d) (by omega);have UU:=hg.many d es bp;(conv=>whnf);skip;refine bD rfl mixed [0,1,5,6,7,8] [] (fun m r h=>∃ (k:Nat) (lv:AV) (lh:af),r=[(0,[],.sl 1 none (g.map kg)),(1,[],.int .i64 most),(5,[],.aQ b 0 (g.length+1) 1),(6,[],.int .i64 d),(7,[],lv),(8,[],.int .i64 k)]/\h=(b,.vec (dq (g.length+1) (TT g most (d+1))))::lh/\m=es.length - k/\k<=es.length/\wW ((gi g most es).take k) lv lh) ?_ ?_
  ·(conv=>whnf);exact ⟨_,_,ah.nD (.cons (aa.refl _) (.cons (aa.refl _) (.cons (aa.refl _) (.cons (aa.refl _) (.cons wD (gT.refl _)))))),_,0,.gu,[],rfl,rfl,rfl,by omega,.inl ⟨rfl,rfl,rfl⟩⟩
  rintro m r h' ⟨k,lv,lh,rfl,rfl,rfl,hk,ho⟩;have wX:=ho;rcases ho with ⟨eV,rfl,rfl⟩|⟨lb,fw,rfl,rfl⟩
  ·skip;(conv=>whnf);repeat (refine ix (by assumption) ?_;conv=>whnf)
   refine ⟨fun bg=>?_,fun bg=>?_⟩<;>simp at bg
   ·obtain ⟨x,hx⟩:=aF bg;have jn:=hg.aR d es bp x (List.mem_of_getElem? hx);have h1:=jn.lo;have h2:=jn.hi;have vq:TT g most (d+1) (0+x.to.toNat*1)=lG (tl g most x.to.toNat):=by unfold TT;rw [if_pos (by omega),Nat.zero_add,Nat.mul_one]
    (conv=>whnf);repeat ((first|refine ix (by assumption) ?_|(refine ⟨x.to.toNat,ag ⟨by omega,by omega⟩,?_⟩)|(refine sT (lG (tl g most x.to.toNat)) (.head _) rfl (by omega) vq ?_));conv=>whnf)
    have fH:=Fx g most x.to.toNat;have ug:=Ol hg (j:=x.to.toNat) (by omega) most;have CC:=jn.cost;have cz:(gi g most es).take (k+1)=(gi g most es).take k++[(tl g most x.to.toNat).map (x::·)]:=by refine cN ?_;unfold gi;rw [List.getElem?_map,hx];rfl
    obtain ⟨T,hT⟩:∃ T,T=tl g most x.to.toNat:=⟨_,rfl⟩;rw [<- hT] at fH ug cz;rw [<- hT];refine bD rfl mixed [0,1,5,6,7,8,9,10,11] [] (fun m r h=>∃ (j:Nat) (ov:AV) (oh:af),r=[(0,[],.sl 1 none (g.map kg)),(1,[],.int .i64 most),(5,[],.aQ b 0 (g.length+1) 1),(6,[],.int .i64 d),(7,[],.gu),(8,[],.int .i64 k),(9,[],ov),(10,[],lG T),(11,[],.int .i64 j)]/\h=(b,.vec (dq (g.length+1) (TT g most (d+1))))::([]++oh)/\m=T.length - j/\j<=T.length/\Out 1 ch ((T.take j).map (x::·)) ov oh) ?_ ?_
    ·(conv=>whnf);exact ⟨_,_,ah.refl _ _,_,0,.aS,[],rfl,rfl,rfl,by omega,.inl ⟨rfl,rfl,rfl⟩⟩
    rintro m r h' ⟨j,ov,oh,rfl,rfl,rfl,hj,cg⟩;have mL:((T.take j).map (x::·)).length=j:=by rw [List.length_map,List.length_take];omega
    rcases cg with ⟨CJ,rfl,rfl⟩|⟨q,rfl,rfl⟩
    ·(conv=>whnf);skip;refine ⟨fun eI=>?_,fun eI=>?_⟩<;>simp at eI
     ·obtain ⟨p,hp⟩:=aF (l:=T) (i:=j) (by omega);have AB:=ug p (List.mem_of_getElem? hp);have ax:((T.take (j+1)).map (x::·)).map ch=[[.ai (.int .i64 (x.cost+cA p)::(cG x.word++[.ai (oQ p)]))]]:=by rw [cN hp,List.map_append,CJ];show [[AV.ai (.int .i64 (cA (x::p))::_)]]=_;rw [yQ];rfl
      (conv=>whnf);repeat ((first|refine ⟨ag ⟨by omega,by omega⟩,?_⟩|refine ix (by assumption) ?_|refine And.intro (by show aJ (aH Tryz.f23 _) _=true;decide +kernel) ?_);conv=>whnf)
      refine ⟨Nat.le_of_ble_eq_true rfl,fun q2=>?_⟩;(conv=>whnf);repeat (refine ⟨ag ⟨by omega,by omega⟩,?_⟩;conv=>whnf)
      exact ⟨_,_,ah.perm (List.perm_append_comm (l₁:=[_]) (l₂:=[_])),_,(by omega),j+1,_,[(q2,.tok)],rfl,rfl,rfl,by omega,.inr ⟨q2,by rw [ax];rfl,rfl⟩⟩
     have qD:((T.take j).map (x::·))=T.map (x::·):=(by rw [List.take_of_length_le (by omega)]);rw [CJ] at qD;(conv=>whnf);repeat ((first|refine ⟨ag ⟨by omega,by omega⟩,?_⟩|(refine ⟨⟨Nat.le_of_ble_eq_true rfl,Nat.le_of_ble_eq_true rfl⟩,fun b4=>?_⟩));conv=>whnf)
     have qE:aa .aS (lG (T.map (x::·))):=by rw [<- qD];exact aa.nil (by decide)
     exact ⟨_,_,ah.trans (ah.cells (ys:=ck (T.map (x::·))) (.here _) (.cons qE .nil)) (ah.perm (List.Perm.swap _ _ _)),_,(by omega),k+1,_,[(b4,_)],rfl,rfl,rfl,by omega,.inr ⟨b4,by rw [cz];simp,(by rw [cz,eV];rfl),(by rw [cz,eV];rfl)⟩⟩
    (conv=>whnf);skip;refine ⟨fun eI=>?_,fun eI=>?_⟩<;>simp at eI
    ·obtain ⟨p,hp⟩:=aF (l:=T) (i:=j) (by omega);have AB:=ug p (List.mem_of_getElem? hp);have ax:((T.take (j+1)).map (x::·)).map ch=((T.take j).map (x::·)).map ch++[[.ai (.int .i64 (x.cost+cA p)::(cG x.word++[.ai (oQ p)]))]]:=by rw [cN hp,List.map_append,List.map_append];show _++[[AV.ai (.int .i64 (cA (x::p))::_)]]=_;rw [yQ];rfl
     (conv=>whnf);repeat ((first|refine ⟨ag ⟨by omega,by omega⟩,?_⟩|refine ix (by assumption) ?_|refine And.intro (by show aJ (aH Tryz.f23 _) _=true;decide +kernel) ?_);conv=>whnf)
     refine ⟨(by rw [List.length_append,List.length_map,mL];simp;unfold aN;omega),fun q2=>⟨_,.there (.here _),?_⟩⟩;(conv=>whnf);repeat (refine ⟨ag ⟨by omega,by omega⟩,?_⟩;conv=>whnf)
     exact ⟨_,_,ah.refl _ _,_,(by omega),j+1,_,[(q2,.tok)],rfl,rfl,rfl,by omega,.inr ⟨q2,by rw [ax];rfl,rfl⟩⟩
    have qD:((T.take j).map (x::·))=T.map (x::·):=(by rw [List.take_of_length_le (by omega)]);rw [qD];(conv=>whnf);repeat ((first|refine ⟨ag ⟨by omega,by omega⟩,?_⟩|(refine ⟨⟨Nat.le_of_ble_eq_true rfl,Nat.le_of_ble_eq_true rfl⟩,fun b4=>?_⟩));conv=>whnf)
    have qE:aa (.sl 1 (some q) ((T.map (x::·)).map ch)) (lG (T.map (x::·))):=aa.sl;exact ⟨_,_,ah.trans (ah.trans (ah.cells (ys:=ck (T.map (x::·))) (.here _) (.cons qE .nil)) (ah.perm (List.Perm.swap _ _ _))) (ah.drop (.there (.there (.here _)))),_,(by omega),k+1,_,[(b4,_)],rfl,rfl,rfl,by omega,.inr ⟨b4,by rw [cz];simp,(by rw [cz,eV];rfl),(by rw [cz,eV];rfl)⟩⟩
   have fg:(gi g most es).take k=gi g most es:=List.take_of_length_le (by unfold gi;rw [List.length_map];omega);have gf:=Om hg (m:=most) bp;rw [fg] at eV;rw [eV] at gf;(conv=>whnf);repeat (refine ab.k0 (wV most hm) ?_;conv=>whnf)
   (conv=>whnf);repeat ((first|refine ⟨ag ⟨by omega,by omega⟩,?_⟩|(refine ⟨d,ag ⟨rfl,by omega⟩,?_⟩)|(refine yR ?_ (.here _) ?_;(focus (show 0+d*1<g.length+1;omega))));conv=>whnf)
   refine ⟨_,_,ah.refl _ _,_,(by omega),d,_,rfl,?_,rfl,rfl,by omega⟩;refine congrArg (fun z=>[(b,Ob.vec z)]) (vp fun j hj=>?_);unfold TT;by_cases h:j=d
   ·rw [if_pos (show j=0+d*1 by omega),if_pos (by omega),h,<- gf,wU most]
   rw [if_neg (show ¬ j=0+d*1 by omega)];by_cases h2:d+1<=j
   ·rw [if_pos h2,if_pos (by omega)]
   rw [if_neg h2,if_neg (by omega)]
  skip;have rF:((gi g most es).take k).length+1<=aN:=by rw [List.length_take];unfold aN;omega
  (conv=>whnf);repeat (refine ix (by assumption) ?_;conv=>whnf)
  refine ⟨fun bg=>?_,fun bg=>?_⟩<;>simp at bg
  ·obtain ⟨x,hx⟩:=aF bg;have jn:=hg.aR d es bp x (List.mem_of_getElem? hx);have h1:=jn.lo;have h2:=jn.hi;have vq:TT g most (d+1) (0+x.to.toNat*1)=lG (tl g most x.to.toNat):=by unfold TT;rw [if_pos (by omega),Nat.zero_add,Nat.mul_one]
   (conv=>whnf);repeat ((first|refine ix (by assumption) ?_|(refine ⟨x.to.toNat,ag ⟨by omega,by omega⟩,?_⟩)|(refine sT (lG (tl g most x.to.toNat)) (.head _) rfl (by omega) vq ?_));conv=>whnf)
   have fH:=Fx g most x.to.toNat;have ug:=Ol hg (j:=x.to.toNat) (by omega) most;have CC:=jn.cost;have cz:(gi g most es).take (k+1)=(gi g most es).take k++[(tl g most x.to.toNat).map (x::·)]:=by refine cN ?_;unfold gi;rw [List.getElem?_map,hx];rfl
   obtain ⟨T,hT⟩:∃ T,T=tl g most x.to.toNat:=⟨_,rfl⟩;rw [<- hT] at fH ug cz;rw [<- hT];refine bD rfl mixed [0,1,5,6,7,8,9,10,11] [] (fun m r h=>∃ (j:Nat) (ov:AV) (oh:af),r=[(0,[],.sl 1 none (g.map kg)),(1,[],.int .i64 most),(5,[],.aQ b 0 (g.length+1) 1),(6,[],.int .i64 d),(7,[],.aQ lb 0 ((gi g most es).take k).length 1),(8,[],.int .i64 k),(9,[],ov),(10,[],lG T),(11,[],.int .i64 j)]/\h=(b,.vec (dq (g.length+1) (TT g most (d+1))))::([(lb,.vec (((gi g most es).take k).map ck).flatten)]++oh)/\m=T.length - j/\j<=T.length/\Out 1 ch ((T.take j).map (x::·)) ov oh) ?_ ?_
   ·(conv=>whnf);exact ⟨_,_,ah.refl _ _,_,0,.aS,[],rfl,rfl,rfl,by omega,.inl ⟨rfl,rfl,rfl⟩⟩
   rintro m r h' ⟨j,ov,oh,rfl,rfl,rfl,hj,cg⟩;have mL:((T.take j).map (x::·)).length=j:=by rw [List.length_map,List.length_take];omega
   rcases cg with ⟨CJ,rfl,rfl⟩|⟨q,rfl,rfl⟩
   ·(conv=>whnf);skip;refine ⟨fun eI=>?_,fun eI=>?_⟩<;>simp at eI
    ·obtain ⟨p,hp⟩:=aF (l:=T) (i:=j) (by omega);have AB:=ug p (List.mem_of_getElem? hp);have ax:((T.take (j+1)).map (x::·)).map ch=[[.ai (.int .i64 (x.cost+cA p)::(cG x.word++[.ai (oQ p)]))]]:=by rw [cN hp,List.map_append,CJ];show [[AV.ai (.int .i64 (cA (x::p))::_)]]=_;rw [yQ];rfl
     (conv=>whnf);repeat ((first|refine ⟨ag ⟨by omega,by omega⟩,?_⟩|refine ix (by assumption) ?_|refine And.intro (by show aJ (aH Tryz.f23 _) _=true;decide +kernel) ?_);conv=>whnf)
     refine ⟨Nat.le_of_ble_eq_true rfl,fun q2=>?_⟩;(conv=>whnf);repeat (refine ⟨ag ⟨by omega,by omega⟩,?_⟩;conv=>whnf)
     exact ⟨_,_,ah.perm (List.perm_append_comm (l₁:=[_]) (l₂:=[_,_])),_,(by omega),j+1,_,[(q2,.tok)],rfl,rfl,rfl,by omega,.inr ⟨q2,by rw [ax];rfl,rfl⟩⟩
    have qD:((T.take j).map (x::·))=T.map (x::·):=(by rw [List.take_of_length_le (by omega)]);rw [CJ] at qD;(conv=>whnf);repeat ((first|refine ⟨ag ⟨by omega,by omega⟩,?_⟩|(refine ⟨_,.tail _ (.head _),⟨qq gQ,rF⟩,fun b4=>⟨_,.there (.here _),?_⟩⟩));conv=>whnf)
    have qE:aa .aS (lG (T.map (x::·))):=by rw [<- qD];exact aa.nil (by decide)
    exact ⟨_,_,ah.trans (ah.cells (ys:=(((gi g most es).take k).map ck).flatten++(ck (T.map (x::·))++[])) (.there (.here _)) (cu.pre (.cons qE .nil) _)) (ah.refl _ _),_,(by omega),k+1,_,[(b4,_)],rfl,rfl,rfl,by omega,.inr ⟨b4,by rw [cz];simp,(by rw [cz,List.length_append];rfl),(by rw [cz,List.map_append,List.flatten_append];rfl)⟩⟩
   (conv=>whnf);skip;refine ⟨fun eI=>?_,fun eI=>?_⟩<;>simp at eI
   ·obtain ⟨p,hp⟩:=aF (l:=T) (i:=j) (by omega);have AB:=ug p (List.mem_of_getElem? hp);have ax:((T.take (j+1)).map (x::·)).map ch=((T.take j).map (x::·)).map ch++[[.ai (.int .i64 (x.cost+cA p)::(cG x.word++[.ai (oQ p)]))]]:=by rw [cN hp,List.map_append,List.map_append];show _++[[AV.ai (.int .i64 (cA (x::p))::_)]]=_;rw [yQ];rfl
    (conv=>whnf);repeat ((first|refine ⟨ag ⟨by omega,by omega⟩,?_⟩|refine ix (by assumption) ?_|refine And.intro (by show aJ (aH Tryz.f23 _) _=true;decide +kernel) ?_);conv=>whnf)
    refine ⟨(by rw [List.length_append,List.length_map,mL];simp;unfold aN;omega),fun q2=>⟨_,.there (.there (.here _)),?_⟩⟩;(conv=>whnf);repeat (refine ⟨ag ⟨by omega,by omega⟩,?_⟩;conv=>whnf)
    exact ⟨_,_,ah.refl _ _,_,(by omega),j+1,_,[(q2,.tok)],rfl,rfl,rfl,by omega,.inr ⟨q2,by rw [ax];rfl,rfl⟩⟩
   have qD:((T.take j).map (x::·))=T.map (x::·):=(by rw [List.take_of_length_le (by omega)]);rw [qD];(conv=>whnf);repeat ((first|refine ⟨ag ⟨by omega,by omega⟩,?_⟩|(refine ⟨_,.tail _ (.head _),⟨qq gQ,rF⟩,fun b4=>⟨_,.there (.here _),?_⟩⟩));conv=>whnf)
   have qE:aa (.sl 1 (some q) ((T.map (x::·)).map ch)) (lG (T.map (x::·))):=aa.sl;exact ⟨_,_,ah.trans (ah.trans (ah.cells (ys:=(((gi g most es).take k).map ck).flatten++(ck (T.map (x::·))++[])) (.there (.here _)) (cu.pre (.cons qE .nil) _)) (ah.refl _ _)) (ah.drop (.there (.there (.here _)))),_,(by omega),k+1,_,[(b4,_)],rfl,rfl,rfl,by omega,.inr ⟨b4,by rw [cz];simp,(by rw [cz,List.length_append];rfl),(by rw [cz,List.map_append,List.flatten_append];rfl)⟩⟩
  have fg:(gi g most es).take k=gi g most es:=List.take_of_length_le (by unfold gi;rw [List.length_map];omega);have gf:=Om hg (m:=most) bp;have Vh:∀ l∈gi g most es,l.length<=65536:=by intro l CK;unfold gi at CK;obtain ⟨x,-,rfl⟩:=List.mem_map.1 CK;have:=Fx g most x.to.toNat;rw [List.length_map];omega
  rw [fg];(conv=>whnf);skip;refine aw.mono ?_ (aw.re (h2:=[(b,.vec (dq (g.length+1) (TT g most (d+1))))]) (R':=fun v H=>v=lG (cI (gi g most es) most)/\H=[(b,.vec (dq (g.length+1) (TT g most (d+1))))]) (uf (gi g most es) (List.length_pos_iff.2 (fg ▸ fw)) (by unfold gi;rw [List.length_map];omega) Vh most hm lb) (List.Perm.swap _ _ _) ?_)
  ·rintro v h1 ⟨rfl,rfl⟩;(conv=>whnf);repeat ((first|refine ⟨ag ⟨by omega,by omega⟩,?_⟩|(refine ⟨d,ag ⟨rfl,by omega⟩,?_⟩)|(refine yR ?_ (.here _) ?_;(focus (show 0+d*1<g.length+1;omega))));conv=>whnf)
   refine ⟨_,_,ah.refl _ _,_,(by omega),d,_,rfl,?_,rfl,rfl,by omega⟩;refine congrArg (fun z=>[(b,Ob.vec z)]) (vp fun j hj=>?_);unfold TT;by_cases h:j=d
   ·rw [if_pos (show j=0+d*1 by omega),if_pos (by omega),h,<- gf,show cI (gi g most es) most=cI (gi g most es) most from rfl]
   rw [if_neg (show ¬ j=0+d*1 by omega)];by_cases h2:d+1<=j
   ·rw [if_pos h2,if_pos (by omega)]
   rw [if_neg h2,if_neg (by omega)]
  rintro v h1 ⟨rfl,rfl⟩;exact ⟨_,.refl _,rfl,rfl⟩
 obtain rfl:a=0:=by omega
 have fH:=Fx g most 0;have Ou:=Oo hg (j:=0) (by omega) most;rw [Oq hg];have AD:TT g most 0 (0+0*1)=lG (tl g most 0):=rfl;obtain ⟨T,hT⟩:∃ T,T=tl g most 0:=⟨_,rfl⟩;rw [<- hT] at fH Ou AD;rw [<- hT];(conv=>whnf);skip;refine bD rfl mixed [5,12,13] [] (fun m r h=>∃ (i:Nat) (ov:AV) (oh:af),r=[(5,[],.aQ b 0 (g.length+1) 1),(12,[],ov),(13,[],.int .i64 i)]/\h=(b,.vec (dq (g.length+1) (TT g most 0)))::oh/\m=T.length - i/\i<=T.length/\Out 2 km ((T.take i).map wT) ov oh) ?_ ?_
 ·(conv=>whnf);exact ⟨_,_,ah.refl _ _,_,0,.aS,[],rfl,rfl,rfl,by omega,.inl ⟨rfl,rfl,rfl⟩⟩
 rintro m r h' ⟨i,ov,oh,rfl,rfl,rfl,hi,ho⟩;(conv=>whnf);repeat ((first|(refine fy (i:=0) (by omega) ?_)|(refine sT (lG T) (.head _) rfl (by omega) AD ?_));conv=>whnf)
 refine ⟨fun aG=>?_,fun aG=>?_⟩<;>simp at aG
 ·obtain ⟨p,hp⟩:=aF (l:=T) (i:=i) (by omega);obtain ⟨cM,Ia⟩:=Ou p (List.mem_of_getElem? hp);have mL:((T.take i).map wT).length=i:=by rw [List.length_map,List.length_take];omega
  have mK:((T.take (i+1)).map wT).map km=((T.take i).map wT).map km++[[.sl 4 none ((p.map (·.word)).map cG),.int .i64 (cA p)]]:=by rw [cN hp,List.map_append,List.map_append];rfl
  rcases ho with ⟨eV,rfl,rfl⟩|⟨q,rfl,rfl⟩
  ·skip;(conv=>whnf);repeat ((first|refine ix (by assumption) ?_|(intro (rb:Nat))|(refine fy (i:=0) (by omega) ?_)|(refine sT (lG T) (.head _) rfl (by omega) AD ?_)|(refine sT (lG T) (.tail _ (.head _)) rfl (by omega) AD ?_)|refine ⟨_,_,.here _,aI,?_⟩);conv=>whnf)
   refine bD rfl mixed [5,12,13,14,15] [] (fun m r h=>∃ (pc L:List ar) (wv:AV) (wh:af) (rb:Nat),r=[(5,[],.aQ b 0 (g.length+1) 1),(12,[],.aS),(13,[],.int .i64 i),(14,[],.ba rb 0),(15,[],.ai (oQ pc))]/\h=(rb,.vec [wv,.int .i64 (cA p)])::(b,.vec (dq (g.length+1) (TT g most 0)))::([]++wh)/\m=pc.length/\p=L++pc/\Out 4 cG (L.map (·.word)) wv wh) ?_ ?_
   ·(conv=>whnf);exact ⟨_,_,ah.refl _ _,_,p,[],.aS,[],rb,rfl,rfl,rfl,rfl,.inl ⟨rfl,rfl,rfl⟩⟩
   rintro m r h' ⟨pc,L,wv,wh,rb,rfl,rfl,rfl,ft,hw⟩;cases pc with
   | nil=>
     have CL:p=L:=(by rw [ft,List.append_nil]);have Jg:aa wv (.sl 4 none ((p.map (·.word)).map cG)):=by rw [CL];exact hw.le (by decide)
     (conv=>whnf);skip;refine ⟨fun hz=>absurd hz (by decide),fun _=>?_⟩;(conv=>whnf);repeat ((first|refine ⟨ag ⟨by omega,by omega⟩,?_⟩|(refine ⟨Nat.le_of_ble_eq_true rfl,fun q2=>?_⟩)|refine ⟨_,_,.head _,rfl,?_⟩);conv=>whnf)
     exact ⟨_,_,ah.trans (ah.nD (.cons (aa.refl _) (.cons (aa.lH (.cons (.cons Jg (.cons (aa.refl _) .nil)) .nil)) (gT.refl _)))) (ah.trans (ah.perm (List.perm_middle (l₁:=[_,_]))) (ah.left (A:=[(b,.vec (dq (g.length+1) (TT g most 0))),(q2,.tok)]) (Z:=(rb,.vec [wv,.int .i64 (cA p)])::wh))),_,(by omega),i+1,_,[(q2,.tok)],rfl,rfl,rfl,by omega,.inr ⟨q2,(by rw [mK,eV];rfl),rfl⟩⟩
   | cons x r=>
     have gy:=Ia x (by rw [ft];simp);have lX:(L.map (·.word)).length<=60:=by rw [ft] at cM;simp at cM;rw [List.length_map];omega
     (conv=>whnf);skip;refine ⟨fun _=>?_,fun hz=>absurd hz (by decide)⟩;rcases hw with ⟨Jh,rfl,rfl⟩|⟨q3,rfl,rfl⟩
     ·(conv=>whnf);repeat ((first|refine aY (Fz x.word (by have:=gy.cl;unfold aN;omega) (by have:=gy.us;unfold aN;omega)) ?_|refine ⟨_,_,.head _,rfl,?_⟩|refine And.intro (by show aJ (aH Tryz.f23 _) _=true;decide +kernel) ?_);conv=>whnf)
      refine ⟨Nat.le_of_ble_eq_true rfl,fun q4=>?_⟩;(conv=>whnf);repeat (refine ⟨_,_,.there (.here _),aI,?_⟩;conv=>whnf)
      exact ⟨_,_,ah.perm (List.perm_append_comm (l₁:=[_]) (l₂:=[_,_])),_,Nat.lt_succ_self _,r,L++[x],_,[(q4,.tok)],rb,rfl,rfl,rfl,by rw [ft,List.append_assoc];rfl,.inr ⟨q4,by rw [List.map_append,Jh];rfl,rfl⟩⟩
     (conv=>whnf);repeat ((first|refine aY (Fz x.word (by have:=gy.cl;unfold aN;omega) (by have:=gy.us;unfold aN;omega)) ?_|refine ⟨_,_,.head _,rfl,?_⟩|refine And.intro (by show aJ (aH Tryz.f23 _) _=true;decide +kernel) ?_);conv=>whnf)
     refine ⟨(by rw [List.length_append,List.length_map];simp at lX ⊢;unfold aN;omega),fun q4=>⟨_,.there (.there (.here _)),?_⟩⟩;(conv=>whnf);repeat (refine ⟨_,_,.here _,aI,?_⟩;conv=>whnf)
     exact ⟨_,_,ah.refl _ _,_,Nat.lt_succ_self _,r,L++[x],_,[(q4,.tok)],rb,rfl,rfl,rfl,by rw [ft,List.append_assoc];rfl,.inr ⟨q4,by rw [List.map_append,List.map_append];rfl,rfl⟩⟩
  skip;(conv=>whnf);repeat ((first|refine ix (by assumption) ?_|(intro (rb:Nat))|(refine fy (i:=0) (by omega) ?_)|(refine sT (lG T) (.head _) rfl (by omega) AD ?_)|(refine sT (lG T) (.tail _ (.head _)) rfl (by omega) AD ?_)|refine ⟨_,_,.here _,aI,?_⟩);conv=>whnf)
  refine bD rfl mixed [5,12,13,14,15] [] (fun m r h=>∃ (pc L:List ar) (wv:AV) (wh:af) (rb:Nat),r=[(5,[],.aQ b 0 (g.length+1) 1),(12,[],.sl 2 (some q) (((T.take i).map wT).map km)),(13,[],.int .i64 i),(14,[],.ba rb 0),(15,[],.ai (oQ pc))]/\h=(rb,.vec [wv,.int .i64 (cA p)])::(b,.vec (dq (g.length+1) (TT g most 0)))::([(q,.tok)]++wh)/\m=pc.length/\p=L++pc/\Out 4 cG (L.map (·.word)) wv wh) ?_ ?_
  ·(conv=>whnf);exact ⟨_,_,ah.refl _ _,_,p,[],.aS,[],rb,rfl,rfl,rfl,rfl,.inl ⟨rfl,rfl,rfl⟩⟩
  rintro m r h' ⟨pc,L,wv,wh,rb,rfl,rfl,rfl,ft,hw⟩;cases pc with
  | nil=>
    have CL:p=L:=(by rw [ft,List.append_nil]);have Jg:aa wv (.sl 4 none ((p.map (·.word)).map cG)):=by rw [CL];exact hw.le (by decide)
    (conv=>whnf);skip;refine ⟨fun hz=>absurd hz (by decide),fun _=>?_⟩;(conv=>whnf);repeat ((first|refine ⟨ag ⟨by omega,by omega⟩,?_⟩|(refine ⟨(by rw [List.length_append,List.length_map,mL];simp;unfold aN;omega),fun q2=>⟨_,.there (.there (.here _)),?_⟩⟩)|refine ⟨_,_,.head _,rfl,?_⟩);conv=>whnf)
    exact ⟨_,_,ah.trans (ah.nD (.cons (aa.refl _) (.cons (aa.lH (gz.pre (.cons (.cons Jg (.cons (aa.refl _) .nil)) .nil) _)) (gT.refl _)))) (ah.trans (ah.perm (List.perm_middle (l₁:=[_,_])).symm) (ah.left (A:=[(b,.vec (dq (g.length+1) (TT g most 0))),(q2,.tok)]) (Z:=(rb,.vec [wv,.int .i64 (cA p)])::wh))),_,(by omega),i+1,_,[(q2,.tok)],rfl,rfl,rfl,by omega,.inr ⟨q2,(by rw [mK]),rfl⟩⟩
  | cons x r=>
    have gy:=Ia x (by rw [ft];simp);have lX:(L.map (·.word)).length<=60:=by rw [ft] at cM;simp at cM;rw [List.length_map];omega
    (conv=>whnf);skip;refine ⟨fun _=>?_,fun hz=>absurd hz (by decide)⟩;rcases hw with ⟨Jh,rfl,rfl⟩|⟨q3,rfl,rfl⟩
    ·(conv=>whnf);repeat ((first|refine aY (Fz x.word (by have:=gy.cl;unfold aN;omega) (by have:=gy.us;unfold aN;omega)) ?_|refine ⟨_,_,.head _,rfl,?_⟩|refine And.intro (by show aJ (aH Tryz.f23 _) _=true;decide +kernel) ?_);conv=>whnf)
     refine ⟨Nat.le_of_ble_eq_true rfl,fun q4=>?_⟩;(conv=>whnf);repeat (refine ⟨_,_,.there (.here _),aI,?_⟩;conv=>whnf)
     exact ⟨_,_,ah.perm (List.perm_append_comm (l₁:=[_]) (l₂:=[_,_,_])),_,Nat.lt_succ_self _,r,L++[x],_,[(q4,.tok)],rb,rfl,rfl,rfl,by rw [ft,List.append_assoc];rfl,.inr ⟨q4,by rw [List.map_append,Jh];rfl,rfl⟩⟩
    (conv=>whnf);repeat ((first|refine aY (Fz x.word (by have:=gy.cl;unfold aN;omega) (by have:=gy.us;unfold aN;omega)) ?_|refine ⟨_,_,.head _,rfl,?_⟩|refine And.intro (by show aJ (aH Tryz.f23 _) _=true;decide +kernel) ?_);conv=>whnf)
    refine ⟨(by rw [List.length_append,List.length_map];simp at lX ⊢;unfold aN;omega),fun q4=>⟨_,.there (.there (.there (.here _))),?_⟩⟩;(conv=>whnf);repeat (refine ⟨_,_,.here _,aI,?_⟩;conv=>whnf)
    exact ⟨_,_,ah.refl _ _,_,Nat.lt_succ_self _,r,L++[x],_,[(q4,.tok)],rb,rfl,rfl,rfl,by rw [ft,List.append_assoc];rfl,.inr ⟨q4,by rw [List.map_append,List.map_append];rfl,rfl⟩⟩
 have qD:T.take i=T:=List.take_of_length_le (by omega);rw [qD] at ho;(conv=>whnf);skip;exact ho.le (by decide)
end Go.Abs.Wall.Lst
namespace Go.Abs.Wall.Lst
open Go Go.Abs Go.Proofs Go.Abs.Wall
def ui:ue:=⟨[],0⟩
def mM (H:aD) (line:List Int):ue:=(iX H line 1).headD ui
theorem CM {g:List (List ar)} {m:Nat} (hm:1<=m):jo g m=[]↔bz g 0=[]:=by
 unfold jo;rw [List.map_eq_nil_iff];cases bz g 0 with
 | nil=>simp
 | cons p r=>cases m with
   | zero=>omega
   | succ m=>simp
def c54:av:=⟨[0,1,2,3,6,7,8,9,10,18,25,31],[],[],[],[],[]⟩
def c16:av:=⟨[0,1,2,4,5,6,7,15],[],[],[],[],[]⟩
def c26:av:=⟨[0,1,2,4,5,6,7,15],[],[],[],[],[]⟩
def c24:av:=⟨[0,1,4,5,10,14,26],[],[],[],[(6,[0,1,2,3,4,5,6,7,8,9],[])],[]⟩
def c8:av:=⟨[0,1,2,3,4],[],[],[],[],[]⟩
theorem Vi (H:aD) (line:List Int) (most:Int) (hf:dx H) (hl:line.length<=1048576) :
  ab Tryz.prog 54 [.agg (aZ H),.sl 1 none (ints line),.int .i64 most] [] (.aB [.sl 2 none ((iX H line most).map km),.int .i64 (ed H line most)]):=by
 refine ab.of ?_;refine aA (F:=Tryz.f54) c54 rfl rfl rfl mixed rfl fun X=>?_;(conv=>whnf);repeat (refine ab.k0 (Nz H line hf hl) ?_;conv=>whnf)
 refine ⟨fun h0=>?_,fun h0=>?_⟩<;>simp at h0
 ·have he:ed H line most=dU H line:=by unfold ed;rw [if_pos h0]
  (conv=>whnf);skip;unfold iX;rw [he,if_neg h0];exact aa.aB (.cons (aa.nil (by decide)) (.cons (aa.refl _) .nil))
 obtain ⟨hL,wJ,hg⟩:=wI h0;obtain ⟨g,mJ⟩:∃ g,g=cZ H line:=⟨_,rfl⟩;have Ji:tZ H line=g:=(by rw [tZ,if_pos h0,mJ]);have dJ:ed H line most=if 1<=most/\most<=64 then (if bz g 0=[] then 52 else 0) else 1:=by unfold ed;rw [if_neg (by omega),mJ]
 have dw:iX H line most=if ed H line most=0 then jo g most.toNat else []:=by unfold iX;rw [mJ]
 rw [<- mJ] at hg wJ;rw [Ji,h0];(conv=>whnf);skip;refine ⟨fun hm=>?_,fun hm=>?_⟩<;>simp at hm
 ·(conv=>whnf);skip;rw [dw,dJ,if_neg (show ¬ (1<=most/\most<=64) by omega),if_neg (by decide)];exact aa.aB (.cons (aa.nil (by decide)) (.cons (aa.refl _) .nil))
 have Vj:1<=most/\most<=64:=(by omega);rw [if_pos Vj] at dJ;obtain ⟨m,rfl⟩:∃ m:Nat,most=(m:Int):=⟨most.toNat,by omega⟩;(conv=>whnf);repeat (refine ab.k0 (Ot g hg m (by omega) (by omega)) ?_;conv=>whnf)
 refine ⟨fun hz=>?_,fun hz=>?_⟩<;>simp at hz
 ·have cx:bz g 0=[]:=(CM (by omega)).1 hz;(conv=>whnf);skip;rw [dw,dJ,if_pos cx,if_neg (by decide)];exact aa.aB (.cons (aa.nil (by decide)) (.cons (aa.refl _) .nil))
 have cx:bz g 0≠[]:=fun e=>hz ((CM (by omega)).2 e);(conv=>whnf);skip;rw [dw,dJ,if_neg cx,if_pos rfl];exact aa.refl _
theorem Jj {H:aD} {line:List Int} (h:ed H line 1=0):∃ r l,iX H line 1=r::l/\mM H line=r:=by
 have hl:iX H line 1=jo (cZ H line) (1:Int).toNat:=by unfold iX;rw [if_pos h]
 unfold ed at h;split at h
 ·rename_i h1;exact absurd h h1
 rw [if_pos (by decide)] at h;split at h
 ·cases h
 rename_i h2;cases hr:iX H line 1 with
 | nil=>rw [hl] at hr;exact absurd ((CM (by decide)).1 hr) h2
 | cons r l=>exact ⟨r,l,rfl,by unfold mM;rw [hr];rfl⟩
theorem FA {H:aD} {line:List Int} (h:ed H line 1≠0):mM H line=ui:=by unfold mM iX;rw [if_neg h];rfl
theorem CN (H:aD) (line:List Int) (hf:dx H) (hl:line.length<=1048576) :
  ab Tryz.prog 16 [.agg (aZ H),.sl 1 none (ints line)] [] (.aB [.agg (km (mM H line)),.int .i64 (ed H line 1)]):=by
 refine ab.of ?_;refine aA (F:=Tryz.f16) c16 rfl rfl rfl mixed rfl fun X=>?_;(conv=>whnf);intro rb;(conv=>whnf);repeat (refine ab.k0 (Va H line 1 hf hl) ?_;conv=>whnf)
 refine ⟨fun hz=>?_,fun hz=>?_⟩<;>simp at hz
 ·(conv=>whnf);repeat ((first|(refine ⟨_,_,.here _,aI,?_⟩)|refine ⟨_,_,.head _,rfl,?_⟩);conv=>whnf)
  rw [FA hz];exact aa.aB (.cons (aa.agg (.cons (aa.nil (by decide)) (.cons (aa.refl _) .nil))) (.cons (aa.refl _) .nil))
 obtain ⟨r,l,h1,h2⟩:=Jj hz;rw [h1,h2,hz];(conv=>whnf);repeat ((first|(refine cp (enc:=km) 0 rfl rfl ?_)|refine ⟨_,_,.head _,rfl,?_⟩|refine ⟨_,_,.here _,aI,?_⟩);conv=>whnf)
 exact aa.refl _
theorem Ov (H:aD) (line:List Int) (hf:dx H) (hl:line.length<=1048576) :
  ab Tryz.prog 26 [.agg (aZ H),.sl 1 none (ints line)] [] (.aB [.agg (km (mM H line)),.int .i64 (ed H line 1)]):=by
 refine ab.of ?_;refine aA (F:=Tryz.f26) c26 rfl rfl rfl mixed rfl fun X=>?_;(conv=>whnf);intro rb;(conv=>whnf);repeat (refine ab.k0 (Vi H line 1 hf hl) ?_;conv=>whnf)
 refine ⟨fun hz=>?_,fun hz=>?_⟩<;>simp at hz
 ·(conv=>whnf);repeat ((first|(refine ⟨_,_,.here _,aI,?_⟩)|refine ⟨_,_,.head _,rfl,?_⟩);conv=>whnf)
  rw [FA hz];exact aa.aB (.cons (aa.agg (.cons (aa.nil (by decide)) (.cons (aa.refl _) .nil))) (.cons (aa.refl _) .nil))
 obtain ⟨r,l,h1,h2⟩:=Jj hz;rw [h1,h2,hz];(conv=>whnf);repeat ((first|(refine cp (enc:=km) 0 rfl rfl ?_)|refine ⟨_,_,.head _,rfl,?_⟩|refine ⟨_,_,.here _,aI,?_⟩);conv=>whnf)
 exact aa.refl _
def AE (r:ue):Prop:=r.words.length<=60/\∀ w∈r.words,nE w
theorem Vk {H:aD} {line:List Int} {most:Int}:∀ r∈iX H line most,AE r:=by
 unfold iX;split
 ·rename_i he
  have h0:dU H line=0:=by
   unfold ed at he;split at he
   ·rename_i h1;exact absurd he h1
   rename_i h1;simpa using h1
  obtain ⟨hL,wJ,hg⟩:=wI h0;intro r hr;rw [Oq hg] at hr;obtain ⟨p,hp,rfl⟩:=List.mem_map.1 hr;obtain ⟨h1,h2⟩:=Oo hg (j:=0) (by omega) _ p hp;refine ⟨by show (p.map _).length<=60;rw [List.length_map];exact h1,fun w hw=>?_⟩;obtain ⟨x,hx,rfl⟩:=List.mem_map.1 hw;exact h2 x hx
 simp
theorem Ow {H:aD} {line:List Int}:AE (mM H line):=by
 by_cases h:ed H line 1=0
 ·obtain ⟨r,l,h1,h2⟩:=Jj h;rw [h2];exact Vk r (by rw [h1];simp)
 rw [FA h];exact ⟨by decide,fun w hw=>by cases hw⟩
theorem Vl (a b:List eJ) (ha:a.length<=1048576) (hb:b.length<=1048576) (Vm:∀ x∈a,nE x) (Vn:∀ x∈b,nE x):ab Tryz.prog 24 [.sl 4 none (a.map cG),.sl 4 none (b.map cG)] [] (.bool (decide (a=b))):=by
 refine aA (F:=Tryz.f24) c24 rfl rfl rfl mixed rfl fun X=>?_;(conv=>whnf);skip;refine ⟨fun hc=>?_,fun hc=>?_⟩<;>simp at hc
 ·(conv=>whnf);refine ⟨congrArg AV.bool (decide_eq_false fun e=>?_).symm,rfl⟩;rw [e] at hc;omega
 (conv=>whnf);skip;refine bS rfl mixed [0,1,5] [] (fun m r h=>∃ (i:Nat),r=[(0,[],.sl 4 none (a.map cG)),(1,[],.sl 4 none (b.map cG)),(5,[],.int .i64 i)]/\h=[]/\m=a.length - i/\i<=a.length/\decide (a=b)=decide (a.drop i=b.drop i)) ?_ ?_
 ·(conv=>whnf);exact ⟨_,0,rfl,rfl,rfl,by omega,rfl⟩
 rintro m r h ⟨i,rfl,rfl,rfl,hi,hg⟩;(conv=>whnf);skip;refine ⟨fun aG=>?_,fun aG=>?_⟩<;>simp at aG
 ·obtain ⟨x,hx⟩:=aF aG;obtain ⟨y,hy⟩:=aF (l:=b) (i:=i) (by omega);rw [drop_cons hx,drop_cons hy] at hg;(conv=>whnf);repeat ((first|refine ix (by assumption) ?_|refine aY (UE x y (Vm x (List.mem_of_getElem? hx)) (Vn y (List.mem_of_getElem? hy))) ?_|refine And.intro (by show aJ (aH Tryz.f24 _) _=true;decide +kernel) ?_);conv=>whnf)
  refine ⟨fun hq=>?_,fun hq=>?_⟩
  ·rw [Bool.not_eq_true',decide_eq_false_iff_not] at hq;(conv=>whnf);skip;refine ⟨congrArg AV.bool ?_,rfl⟩;rw [hg];symm;rw [decide_eq_false_iff_not];intro h;exact hq (List.cons.inj h).1
  rw [Bool.not_eq_false',decide_eq_true_eq] at hq;subst hq;(conv=>whnf);repeat (refine ⟨ag ⟨by omega,by omega⟩,?_⟩;conv=>whnf)
  refine ⟨_,by omega,i+1,rfl,rfl,rfl,by omega,?_⟩;rw [hg,decide_eq_decide,List.cons.injEq];simp
 rw [drop_nil aG,drop_nil (by omega)] at hg;(conv=>whnf);skip;exact ⟨congrArg AV.bool (by rw [hg];rfl),rfl⟩
theorem Vo (a b:ue) (ha:AE a) (hb:AE b):ab Tryz.prog 8 [.agg (km a),.agg (km b)] [] (.bool (decide (a.cost=b.cost)&&decide (a.words=b.words))):=by
 refine aA (F:=Tryz.f8) c8 rfl rfl rfl mixed rfl fun X=>?_;(conv=>whnf);repeat (refine aY (Vl a.words b.words (by have:=ha.1;omega) (by have:=hb.1;omega) ha.2 hb.2) ?_;conv=>whnf)
 exact ⟨rfl,rfl⟩
end Go.Abs.Wall.Lst
