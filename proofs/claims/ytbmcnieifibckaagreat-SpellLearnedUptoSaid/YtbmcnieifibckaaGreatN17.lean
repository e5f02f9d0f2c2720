/- What is proved: small laws for the walks of this seat, and contracts of its functions. No condition but those each theorem names. -/
import Derived.Test.YtbmcnieifibckaaGreatN16
import Derived.Test.YtbmcnieifibckaaGreatN14
set_option maxRecDepth 100000
set_option maxHeartbeats 2000000
set_option linter.unusedVariables false
set_option linter.unusedSimpArgs false
namespace Go.Abs.Wall.Lst
open Go Go.Abs Go.Proofs Go.Abs.Wall
theorem OR {m:Nat} {rs:Nat->Nat} (h:∀ j,rs j<m):∀ {ls:List (List Int)} {k:Nat},nO rs (ls.map (·.take m)) k=nO rs ls k
 | [],k=>rfl
 | l::ls,k=>by rw [List.map_cons];unfold nO;rw [OR h,List.getElem?_take_of_lt (h k)]
theorem OS {m:Nat} {rs:Nat->Nat} {cls:List (List Int)} (h:∀ j,rs j<m):gU (cls.map (·.take m)) rs=gU cls rs:=OR h
theorem OT (cls:List (List Int)) (m:Nat):∀ t,t<=m->cU (cls.map (·.take m)) t=cU cls t
 | 0,_=>rfl
 | t+1,ht=>by have ih:=OT cls m t (by omega);unfold cU at ih ⊢;rw [Cr,Cr,ih,OS fun j=>by have:=IX cls t j;unfold cU at this;omega]
theorem Wk (cls:List (List Int)) (m:Nat):(aW (cls.map (·.take m))).take m=(aW cls).take m:=by
 refine List.ext_getElem? fun t=>?_;by_cases h:t<m
 ·rw [List.getElem?_take_of_lt h,List.getElem?_take_of_lt h,lG,lG,OT cls m t (by omega)];exact OS fun j=>by have:=IX cls t j;omega
 rw [List.getElem?_take_eq_none (by omega),List.getElem?_take_eq_none (by omega)]
def tl (g:List (List av)) (m j:Nat):List (List av):=((bk g j).take m).map (·.2)
theorem Wm (g:List (List av)) {m:Nat} (hm:1<=m):tl g m g.length=[[]]:=by unfold tl;rw [wN,List.take_of_length_le (by simpa using hm)];rfl
theorem FU (g:List (List av)) (m j:Nat):(tl g m j).length<=m:=by unfold tl;rw [List.length_map,List.length_take];omega
theorem wR (x:av) (p:List av):cn (x::p)=x.cost+cn p:=by unfold cn;rw [List.map_cons,List.sum_cons]
theorem FV {g:List (List av)} (hg:fX g):∀ (d i:Nat),i+d=g.length->∀ p∈bk g i,cn p.2=p.1:=by
 intro d;induction d using Nat.strongRecOn with
 | _ d ih=>
   intro i hi p hp;by_cases h:i<g.length
   ·obtain ⟨es,bc⟩:=aL h;have hE:=hg.aO i es bc;rw [vl bc hE,List.mem_map] at hp;obtain ⟨w,hw,rfl⟩:=hp;rw [Jj];obtain ⟨t,ht⟩:=List.mem_iff_getElem?.1 hw;obtain ⟨_,l,h2,h3⟩:=jR ht;unfold cP at h2;rw [List.getElem?_map] at h2;cases hx:es[w.aO]? with
    | none=>rw [hx] at h2;cases h2
    | some x=>
      rw [hx] at h2;cases h2
      have ho:=hE x (List.mem_of_getElem? hx);unfold lR at h3;rw [List.getElem?_map] at h3;cases hq:(bk g x.to.toNat)[w.aM]? with
      | none=>rw [hq] at h3;cases h3
      | some q=>
        rw [hq] at h3;have h3:x.cost+q.1=w.cost:=(by simpa using h3);have h5:=ho.lo;have h6:=ho.hi;have:=ih (g.length - x.to.toNat) (by omega) x.to.toNat (by omega) q (List.mem_of_getElem? hq);unfold lf;rw [hx];show cn (x::((bk g x.to.toNat).getD w.aM (0,[])).2)=_;rw [List.getD_eq_getElem?_getD,hq];show cn (x::q.2)=_;rw [wR,this,h3]
   have:i=g.length:=(by omega);subst this;rw [wN] at hp;simp at hp;subst hp;rfl
theorem OU {g:List (List av)} (hg:fX g) {j:Nat} (hj:j<=g.length) (m:Nat):∀ p∈tl g m j,0<=cn p/\cn p<=1080000:=by intro p hp;unfold tl at hp;obtain ⟨q,hq,rfl⟩:=List.mem_map.1 hp;have hq:=List.mem_of_mem_take hq;have h1:=OG hg (g.length - j) j (by omega) q hq;have h2:=FV hg (g.length - j) j (by omega) q hq;have:=hg.bB;rw [h2];omega
def gr (g:List (List av)) (m:Nat) (es:List av):List (List (List av)):=es.map fun x=>(tl g m x.to.toNat).map (x::·)
theorem Wn {g:List (List av)} (hg:fX g) {m i:Nat} {es:List av} (bc:g[i]?=some es):cK (gr g m es)=(cP g es).map (·.take m):=by unfold cK gr cP;rw [List.map_map,List.map_map];refine List.map_congr_left fun x hx=>?_;have ho:=hg.aO i es bc x hx;have h5:=ho.lo;have h6:=ho.hi;show ((tl g m x.to.toNat).map (x::·)).map cn=(lR x (bk g x.to.toNat)).take m;unfold tl lR;rw [List.map_map,List.map_map,<- List.map_take];refine List.map_congr_left fun p hp=>?_;show cn (x::p.2)=x.cost+p.1;rw [wR,FV hg (g.length - x.to.toNat) _ (by omega) p (List.mem_of_mem_take hp)]
theorem OV {g:List (List av)} (hg:fX g) {m i:Nat} {es:List av} (bc:g[i]?=some es):fo (gr g m es) m=tl g m i:=by
 have hE:=hg.aO i es bc;unfold fo;rw [Wn hg bc,Wk];unfold tl;rw [vl bc hE,<- List.map_take,List.map_map];refine List.map_congr_left fun w hw=>?_;obtain ⟨t,ht⟩:=List.mem_iff_getElem?.1 hw;have yh:t<m:=by have:=(List.getElem?_eq_some_iff.1 ht).1;rw [List.length_take] at this;omega
 rw [List.getElem?_take_of_lt yh] at ht;have hr:=Cs ht;obtain ⟨_,l,h2,h3⟩:=jR ht;unfold cP at h2;rw [List.getElem?_map] at h2;cases hx:es[w.aO]? with
 | none=>rw [hx] at h2;cases h2
 | some x=>
   rw [hx] at h2;cases h2
   unfold lR at h3;rw [List.getElem?_map] at h3;cases hq:(bk g x.to.toNat)[w.aM]? with
   | none=>rw [hq] at h3;cases h3
   | some q=>
     show fY (gr g m es) w=(lf es (fun x=>bk g x.to.toNat) w).2;unfold fY gr lf;rw [List.getD_eq_getElem?_getD,List.getD_eq_getElem?_getD,List.getElem?_map,hx];show (((tl g m x.to.toNat).map (x::·))[w.aM]?).getD []=x::((bk g x.to.toNat).getD w.aM (0,[])).2;unfold tl;rw [List.getD_eq_getElem?_getD,hq,List.getElem?_map,List.getElem?_map,List.getElem?_take_of_lt (by omega),hq];rfl
def c82:az:=⟨[0,1,2],[1],[2],[],[],[]⟩
def c98:az:=⟨[0,1,4,5,6,7,8,9,10,11,12,13,14,15,31,40,57,108,131],[],[],[],[(15,[0,1,2,3,4,5,6,7,8,9,10,11,12,13,14,15,16,17,18,19,20,21,22,23,24,25,26,27,28,29,30,31,32,33],[]),(26,[0,1,2,3,4,5,6,7,8,9,10],[])],[]⟩
theorem FW (w:bU) (h1:w.form.ar.length<=aU) (h2:w.ai.length<=aU):ae Tryz.prog 82 [.agg (cr w)] [] (.agg (cr w)):=by
 refine ae.of ?_;refine aG (F:=Tryz.f82) c82 rfl rfl rfl mixed rfl fun X=>?_;(conv=>whnf);intro b1;(conv=>whnf);intro b2;(conv=>whnf);repeat ((first|(refine ⟨(by rw [cg];exact h1),fun q1=>?_⟩)|(refine ⟨(by rw [List.length_map];exact h2),fun q2=>?_⟩)|(refine ⟨_,_,.there (.there (.here _)),aR,?_⟩)|(refine ⟨_,_,.there (.there (.there (.here _))),aR,?_⟩)|(refine ⟨_,_,.tail _ (.tail _ (.head _)),rfl,?_⟩)|(refine ⟨_,_,.tail _ (.tail _ (.tail _ (.head _))),rfl,?_⟩)|refine ⟨_,_,.tail _ (.head _),rfl,?_⟩);conv=>whnf)
 refine ⟨_,_,.there (.there (.here _)),⟨Nat.le_of_ble_eq_true rfl,rfl⟩,?_⟩;exact ag.agg (.cons (ag.refl _) (.cons (ag.refl _) (.cons ag.sl (.cons ag.sl .nil))))
end Go.Abs.Wall.Lst
namespace Go.Abs.Wall.Lst
open Go Go.Abs Go.Proofs Go.Abs.Wall
theorem OW {g:List (List av)} (hg:fX g):∀ (d i:Nat),i+d=g.length->∀ p∈bk g i,p.2.length<=d/\∀ x∈p.2,pz x.word:=by
 intro d;induction d using Nat.strongRecOn with
 | _ d ih=>
   intro i hi p hp;by_cases h:i<g.length
   ·obtain ⟨es,bc⟩:=aL h;have hE:=hg.aO i es bc;rw [vl bc hE,List.mem_map] at hp;obtain ⟨w,hw,rfl⟩:=hp;unfold lf;cases hx:es[w.aO]? with
    | none=>exact ⟨Nat.zero_le _,fun x hx=>by cases hx⟩
    | some x=>
      have ho:=hE x (List.mem_of_getElem? hx);have h5:=ho.lo;have h6:=ho.hi;show (x::((bk g x.to.toNat).getD w.aM (0,[])).2).length<=d/\∀ y∈x::((bk g x.to.toNat).getD w.aM (0,[])).2,pz y.word;rw [List.getD_eq_getElem?_getD];cases hq:(bk g x.to.toNat)[w.aM]? with
      | none=>
        refine ⟨by simp;omega,fun y hy=>?_⟩;rw [List.mem_singleton.1 hy];exact ho.fit
      | some q=>
        obtain ⟨h7,h8⟩:=ih (g.length - x.to.toNat) (by omega) x.to.toNat (by omega) q (List.mem_of_getElem? hq);refine ⟨by show q.2.length+1<=d;omega,fun y hy=>?_⟩;rcases List.mem_cons.1 hy with rfl|hy
        ·exact ho.fit
        exact h8 y hy
   have:i=g.length:=(by omega);subst this;rw [wN] at hp;simp at hp;subst hp;exact ⟨Nat.zero_le _,fun x hx=>by cases hx⟩
theorem OX {g:List (List av)} (hg:fX g) {j:Nat} (hj:j<=g.length) (m:Nat):∀ p∈tl g m j,p.length<=60/\∀ x∈p,pz x.word:=by intro p hp;unfold tl at hp;obtain ⟨q,hq,rfl⟩:=List.mem_map.1 hp;obtain ⟨h1,h2⟩:=OW hg (g.length - j) j (by omega) q (List.mem_of_mem_take hq);have:=hg.bB;exact ⟨by omega,h2⟩
def lW (l:List (List av)):AV:=.sl 1 none (l.map dp)
def TT (g:List (List av)) (m a j:Nat):AV:=if a<=j then lW (tl g m j) else .aT
def wS (p:List av):sT:=⟨p.map (·.word),cn p⟩
theorem OY {g:List (List av)} (hg:fX g) (m:Nat):fA g m=(tl g m 0).map wS:=by unfold fA tl;rw [List.map_map];refine List.map_congr_left fun p hp=>?_;show gF p=wS p.2;unfold gF wS;rw [FV hg g.length 0 (by omega) p (List.mem_of_mem_take hp)]
theorem OZ (m:Nat):fo [] m=[]:=by unfold fo cK aW;simp [pB,gen]
theorem Pa (most:Nat) (hm:most<=64):ae Tryz.prog 161 [.gZ,.int .i64 most] [] (lW []):=by
 refine ae.of ?_;refine aG (F:=Tryz.f161) c161 rfl rfl rfl mixed rfl fun X=>?_;(conv=>whnf);skip;refine bR rfl mixed [0,1,5] [] (fun m r h=>r=[(0,[],.gZ),(1,[],.int .i64 most),(5,[],.aT)]/\h=[]/\m=0/\True) ?_ ?_
 ·(conv=>whnf);exact ⟨_,rfl,rfl,rfl,trivial⟩
 rintro m r h' ⟨rfl,rfl,rfl,-⟩;(conv=>whnf);skip;refine ⟨fun hz=>?_,fun hz=>?_⟩<;>simp at hz
 ·(conv=>whnf);skip;refine bR rfl mixed [0,1,5,6,7] [] (fun m r h=>r=[(0,[],.gZ),(1,[],.int .i64 most),(5,[],.aT),(6,[],.int .i64 (-1)),(7,[],.int .i64 0)]/\h=[]/\m=0/\True) ?_ ?_
  ·(conv=>whnf);exact ⟨_,rfl,rfl,rfl,trivial⟩
  rintro m r h' ⟨rfl,rfl,rfl,-⟩;(conv=>whnf);skip;refine ⟨fun fU=>absurd (of_decide_eq_true fU) (by omega),fun _=>?_⟩;(conv=>whnf);skip;refine ⟨fun _=>?_,fun bE=>absurd bE (by decide)⟩;(conv=>whnf);skip;exact ag.nil (by decide)
 (conv=>whnf);skip;exact ag.nil (by decide)
theorem _root_.Go.Abs.cW.pre {a b:List AV} (h:cW a b):∀ xs:List AV,cW (xs++a) (xs++b)
 | []=>h
 | x::xs=>.cons (ag.refl x) (cW.pre h xs)
theorem iR.pre {a b:List (List AV)} (h:iR a b):∀ xs:List (List AV),iR (xs++a) (xs++b)
 | []=>h
 | x::xs=>.cons (cW.refl x) (iR.pre h xs)
theorem ao.left {r:aC} {A Z:af}:ao r (A++Z) r A:=
 ao.sub (fun k o hm=>List.mem_append_left _ hm) fun hn=>by unfold keys at hn ⊢;rw [List.map_append] at hn;exact (List.nodup_append.1 hn).1
def Pb (L:List (List (List av))) (v:AV) (hp:af):Prop:=(L=[]/\v=.gZ/\hp=[])\/∃ lb,L≠[]/\v=.aQ lb 0 L.length 1/\hp=[(lb,.vec (L.map gq).flatten)]
set_option maxHeartbeats 2000000 in
theorem Wo (g:List (List av)) (hg:fX g) (most:Nat) (Pc:1<=most) (hm:most<=64):ae Tryz.prog 98 [.sl 1 none (g.map pA),.int .i64 most] [] (.sl 2 none ((fA g most).map kI)):=by
 have dw:=hg.bB;refine ae.of ?_;refine aG (F:=Tryz.f98) c98 rfl rfl rfl mixed rfl fun X=>?_;(conv=>whnf);repeat ((first|(refine ⟨ah ⟨by rw [List.length_map];omega,by rw [List.length_map];omega⟩,?_⟩)|(refine ⟨⟨rfl,by rw [List.length_map];omega,by rw [List.length_map];omega⟩,fun b=>?_⟩));conv=>whnf)
 rw [show (((g.map pA).length:Int)+1).toNat=g.length+1 by rw [List.length_map];omega,show gM (g.length+1) [AV.aT]=ep (g.length+1) (fun _=>.aT) from Pd _ _];repeat ((first|(refine ⟨g.length,ah ⟨by rw [List.length_map],by omega⟩,?_⟩)|(refine CO ?_ (.here _) ?_;(focus (show 0+g.length*1<g.length+1;omega)))|(refine ⟨ah ⟨by rw [List.length_map];omega,by rw [List.length_map];omega⟩,?_⟩));conv=>whnf)
 refine bW rfl mixed [0,1,5,6] [] (fun m r h=>∃ (a:Nat) (c:Int),r=[(0,[],.sl 1 none (g.map pA)),(1,[],.int .i64 most),(5,[],.aQ b 0 (g.length+1) 1),(6,[],.int .i64 c)]/\h=[(b,.vec (ep (g.length+1) (TT g most a)))]/\m=a/\c=(a:Int) - 1/\a<=g.length) ?_ ?_
 ·(conv=>whnf);refine ⟨_,_,ao.refl _ _,_,g.length,_,rfl,?_,rfl,by rw [List.length_map],by omega⟩;refine congrArg (fun z=>[(b,Ob.vec z)]) (yO fun j hj=>?_);unfold TT;by_cases h:j=g.length
  ·rw [if_pos (show j=0+g.length*[AV.aT].length by simp;omega),if_pos (by omega),h,Wm g Pc];rfl
  rw [if_neg (show ¬ j=0+g.length*[AV.aT].length by simp;omega),if_neg (by omega)]
 rintro a r h' ⟨a',c,rfl,rfl,rfl,mq,ha⟩;(conv=>whnf);refine ⟨fun de=>?_,fun de=>?_⟩<;>simp at de
 ·obtain ⟨d,rfl⟩:∃ d,a=d+1:=⟨a - 1,by omega⟩;have FX:c=(d:Int):=(by omega);subst FX;obtain ⟨es,bc⟩:=aL (l:=g) (i:=d) (by omega);have Jx:=hg.many d es bc;(conv=>whnf);skip;refine bW rfl mixed [0,1,5,6,7,8] [] (fun m r h=>∃ (k:Nat) (lv:AV) (lh:af),r=[(0,[],.sl 1 none (g.map pA)),(1,[],.int .i64 most),(5,[],.aQ b 0 (g.length+1) 1),(6,[],.int .i64 d),(7,[],lv),(8,[],.int .i64 k)]/\h=(b,.vec (ep (g.length+1) (TT g most (d+1))))::lh/\m=es.length - k/\k<=es.length/\Pb ((gr g most es).take k) lv lh) ?_ ?_
  ·(conv=>whnf);exact ⟨_,_,ao.sF (.cons (ag.refl _) (.cons (ag.refl _) (.cons (ag.refl _) (.cons (ag.refl _) (.cons Ar (jQ.refl _)))))),_,0,.gZ,[],rfl,rfl,rfl,by omega,.inl ⟨rfl,rfl,rfl⟩⟩
  rintro m r h' ⟨k,lv,lh,rfl,rfl,rfl,hk,ho⟩;have wT:=ho;rcases ho with ⟨pG,rfl,rfl⟩|⟨lb,ml,rfl,rfl⟩
  ·skip;(conv=>whnf);repeat (refine ix (by assumption) ?_;conv=>whnf)
   refine ⟨fun bw=>?_,fun bw=>?_⟩<;>simp at bw
   ·obtain ⟨x,hx⟩:=aL bw;have jA:=hg.aO d es bc x (List.mem_of_getElem? hx);have h1:=jA.lo;have h2:=jA.hi;have mX:TT g most (d+1) (0+x.to.toNat*1)=lW (tl g most x.to.toNat):=by unfold TT;rw [if_pos (by omega),Nat.zero_add,Nat.mul_one]
    (conv=>whnf);repeat ((first|refine ix (by assumption) ?_|(refine ⟨x.to.toNat,ah ⟨by omega,by omega⟩,?_⟩)|(refine vz (lW (tl g most x.to.toNat)) (.head _) rfl (by omega) mX ?_));conv=>whnf)
    have fH:=FU g most x.to.toNat;have uj:=OU hg (j:=x.to.toNat) (by omega) most;have CH:=jA.cost;have cp:(gr g most es).take (k+1)=(gr g most es).take k++[(tl g most x.to.toNat).map (x::·)]:=by refine dj ?_;unfold gr;rw [List.getElem?_map,hx];rfl
    obtain ⟨T,hT⟩:∃ T,T=tl g most x.to.toNat:=⟨_,rfl⟩;rw [<- hT] at fH uj cp;rw [<- hT];refine bW rfl mixed [0,1,5,6,7,8,9,10,11] [] (fun m r h=>∃ (j:Nat) (ov:AV) (oh:af),r=[(0,[],.sl 1 none (g.map pA)),(1,[],.int .i64 most),(5,[],.aQ b 0 (g.length+1) 1),(6,[],.int .i64 d),(7,[],.gZ),(8,[],.int .i64 k),(9,[],ov),(10,[],lW T),(11,[],.int .i64 j)]/\h=(b,.vec (ep (g.length+1) (TT g most (d+1))))::([]++oh)/\m=T.length - j/\j<=T.length/\Out 1 dp ((T.take j).map (x::·)) ov oh) ?_ ?_
    ·(conv=>whnf);exact ⟨_,_,ao.refl _ _,_,0,.aT,[],rfl,rfl,rfl,by omega,.inl ⟨rfl,rfl,rfl⟩⟩
    rintro m r h' ⟨j,ov,oh,rfl,rfl,rfl,hj,cy⟩;have mW:((T.take j).map (x::·)).length=j:=by rw [List.length_map,List.length_take];omega
    rcases cy with ⟨CP,rfl,rfl⟩|⟨q,rfl,rfl⟩
    ·(conv=>whnf);skip;refine ⟨fun eG=>?_,fun eG=>?_⟩<;>simp at eG
     ·obtain ⟨p,hp⟩:=aL (l:=T) (i:=j) (by omega);have wJ:=uj p (List.mem_of_getElem? hp);have aF:((T.take (j+1)).map (x::·)).map dp=[[.au (.int .i64 (x.cost+cn p)::(cr x.word++[.au (qD p)]))]]:=by rw [dj hp,List.map_append,CP];show [[AV.au (.int .i64 (cn (x::p))::_)]]=_;rw [wR];rfl
      (conv=>whnf);repeat ((first|refine ⟨ah ⟨by omega,by omega⟩,?_⟩|refine ix (by assumption) ?_|refine And.intro (by show aP (aN Tryz.f98 _) _=true;decide +kernel) ?_);conv=>whnf)
      refine ⟨Nat.le_of_ble_eq_true rfl,fun q2=>?_⟩;(conv=>whnf);repeat (refine ⟨ah ⟨by omega,by omega⟩,?_⟩;conv=>whnf)
      exact ⟨_,_,ao.perm (List.perm_append_comm (l₁:=[_]) (l₂:=[_])),_,(by omega),j+1,_,[(q2,.tok)],rfl,rfl,rfl,by omega,.inr ⟨q2,by rw [aF];rfl,rfl⟩⟩
     have qF:((T.take j).map (x::·))=T.map (x::·):=(by rw [List.take_of_length_le (by omega)]);rw [CP] at qF;(conv=>whnf);repeat ((first|refine ⟨ah ⟨by omega,by omega⟩,?_⟩|(refine ⟨⟨Nat.le_of_ble_eq_true rfl,Nat.le_of_ble_eq_true rfl⟩,fun b4=>?_⟩));conv=>whnf)
     have qG:ag .aT (lW (T.map (x::·))):=by rw [<- qF];exact ag.nil (by decide)
     exact ⟨_,_,ao.trans (ao.cells (ys:=gq (T.map (x::·))) (.here _) (.cons qG .nil)) (ao.perm (List.Perm.swap _ _ _)),_,(by omega),k+1,_,[(b4,_)],rfl,rfl,rfl,by omega,.inr ⟨b4,by rw [cp];simp,(by rw [cp,pG];rfl),(by rw [cp,pG];rfl)⟩⟩
    (conv=>whnf);skip;refine ⟨fun eG=>?_,fun eG=>?_⟩<;>simp at eG
    ·obtain ⟨p,hp⟩:=aL (l:=T) (i:=j) (by omega);have wJ:=uj p (List.mem_of_getElem? hp);have aF:((T.take (j+1)).map (x::·)).map dp=((T.take j).map (x::·)).map dp++[[.au (.int .i64 (x.cost+cn p)::(cr x.word++[.au (qD p)]))]]:=by rw [dj hp,List.map_append,List.map_append];show _++[[AV.au (.int .i64 (cn (x::p))::_)]]=_;rw [wR];rfl
     (conv=>whnf);repeat ((first|refine ⟨ah ⟨by omega,by omega⟩,?_⟩|refine ix (by assumption) ?_|refine And.intro (by show aP (aN Tryz.f98 _) _=true;decide +kernel) ?_);conv=>whnf)
     refine ⟨(by rw [List.length_append,List.length_map,mW];simp;unfold aU;omega),fun q2=>⟨_,.there (.here _),?_⟩⟩;(conv=>whnf);repeat (refine ⟨ah ⟨by omega,by omega⟩,?_⟩;conv=>whnf)
     exact ⟨_,_,ao.refl _ _,_,(by omega),j+1,_,[(q2,.tok)],rfl,rfl,rfl,by omega,.inr ⟨q2,by rw [aF];rfl,rfl⟩⟩
    have qF:((T.take j).map (x::·))=T.map (x::·):=(by rw [List.take_of_length_le (by omega)]);rw [qF];(conv=>whnf);repeat ((first|refine ⟨ah ⟨by omega,by omega⟩,?_⟩|(refine ⟨⟨Nat.le_of_ble_eq_true rfl,Nat.le_of_ble_eq_true rfl⟩,fun b4=>?_⟩));conv=>whnf)
    have qG:ag (.sl 1 (some q) ((T.map (x::·)).map dp)) (lW (T.map (x::·))):=ag.sl;exact ⟨_,_,ao.trans (ao.trans (ao.cells (ys:=gq (T.map (x::·))) (.here _) (.cons qG .nil)) (ao.perm (List.Perm.swap _ _ _))) (ao.drop (.there (.there (.here _)))),_,(by omega),k+1,_,[(b4,_)],rfl,rfl,rfl,by omega,.inr ⟨b4,by rw [cp];simp,(by rw [cp,pG];rfl),(by rw [cp,pG];rfl)⟩⟩
   have fi:(gr g most es).take k=gr g most es:=List.take_of_length_le (by unfold gr;rw [List.length_map];omega);have gR:=OV hg (m:=most) bc;rw [fi] at pG;rw [pG] at gR;(conv=>whnf);repeat (refine ae.k0 (Pa most hm) ?_;conv=>whnf)
   (conv=>whnf);repeat ((first|refine ⟨ah ⟨by omega,by omega⟩,?_⟩|(refine ⟨d,ah ⟨rfl,by omega⟩,?_⟩)|(refine CO ?_ (.here _) ?_;(focus (show 0+d*1<g.length+1;omega))));conv=>whnf)
   refine ⟨_,_,ao.refl _ _,_,(by omega),d,_,rfl,?_,rfl,rfl,by omega⟩;refine congrArg (fun z=>[(b,Ob.vec z)]) (yO fun j hj=>?_);unfold TT;by_cases h:j=d
   ·rw [if_pos (show j=0+d*1 by omega),if_pos (by omega),h,<- gR,OZ most]
   rw [if_neg (show ¬ j=0+d*1 by omega)];by_cases h2:d+1<=j
   ·rw [if_pos h2,if_pos (by omega)]
   rw [if_neg h2,if_neg (by omega)]
  skip;have Ak:((gr g most es).take k).length+1<=aU:=by rw [List.length_take];unfold aU;omega
  (conv=>whnf);repeat (refine ix (by assumption) ?_;conv=>whnf)
  refine ⟨fun bw=>?_,fun bw=>?_⟩<;>simp at bw
  ·obtain ⟨x,hx⟩:=aL bw;have jA:=hg.aO d es bc x (List.mem_of_getElem? hx);have h1:=jA.lo;have h2:=jA.hi;have mX:TT g most (d+1) (0+x.to.toNat*1)=lW (tl g most x.to.toNat):=by unfold TT;rw [if_pos (by omega),Nat.zero_add,Nat.mul_one]
   (conv=>whnf);repeat ((first|refine ix (by assumption) ?_|(refine ⟨x.to.toNat,ah ⟨by omega,by omega⟩,?_⟩)|(refine vz (lW (tl g most x.to.toNat)) (.head _) rfl (by omega) mX ?_));conv=>whnf)
   have fH:=FU g most x.to.toNat;have uj:=OU hg (j:=x.to.toNat) (by omega) most;have CH:=jA.cost;have cp:(gr g most es).take (k+1)=(gr g most es).take k++[(tl g most x.to.toNat).map (x::·)]:=by refine dj ?_;unfold gr;rw [List.getElem?_map,hx];rfl
   obtain ⟨T,hT⟩:∃ T,T=tl g most x.to.toNat:=⟨_,rfl⟩;rw [<- hT] at fH uj cp;rw [<- hT];refine bW rfl mixed [0,1,5,6,7,8,9,10,11] [] (fun m r h=>∃ (j:Nat) (ov:AV) (oh:af),r=[(0,[],.sl 1 none (g.map pA)),(1,[],.int .i64 most),(5,[],.aQ b 0 (g.length+1) 1),(6,[],.int .i64 d),(7,[],.aQ lb 0 ((gr g most es).take k).length 1),(8,[],.int .i64 k),(9,[],ov),(10,[],lW T),(11,[],.int .i64 j)]/\h=(b,.vec (ep (g.length+1) (TT g most (d+1))))::([(lb,.vec (((gr g most es).take k).map gq).flatten)]++oh)/\m=T.length - j/\j<=T.length/\Out 1 dp ((T.take j).map (x::·)) ov oh) ?_ ?_
   ·(conv=>whnf);exact ⟨_,_,ao.refl _ _,_,0,.aT,[],rfl,rfl,rfl,by omega,.inl ⟨rfl,rfl,rfl⟩⟩
   rintro m r h' ⟨j,ov,oh,rfl,rfl,rfl,hj,cy⟩;have mW:((T.take j).map (x::·)).length=j:=by rw [List.length_map,List.length_take];omega
   rcases cy with ⟨CP,rfl,rfl⟩|⟨q,rfl,rfl⟩
   ·(conv=>whnf);skip;refine ⟨fun eG=>?_,fun eG=>?_⟩<;>simp at eG
    ·obtain ⟨p,hp⟩:=aL (l:=T) (i:=j) (by omega);have wJ:=uj p (List.mem_of_getElem? hp);have aF:((T.take (j+1)).map (x::·)).map dp=[[.au (.int .i64 (x.cost+cn p)::(cr x.word++[.au (qD p)]))]]:=by rw [dj hp,List.map_append,CP];show [[AV.au (.int .i64 (cn (x::p))::_)]]=_;rw [wR];rfl
     (conv=>whnf);repeat ((first|refine ⟨ah ⟨by omega,by omega⟩,?_⟩|refine ix (by assumption) ?_|refine And.intro (by show aP (aN Tryz.f98 _) _=true;decide +kernel) ?_);conv=>whnf)
     refine ⟨Nat.le_of_ble_eq_true rfl,fun q2=>?_⟩;(conv=>whnf);repeat (refine ⟨ah ⟨by omega,by omega⟩,?_⟩;conv=>whnf)
     exact ⟨_,_,ao.perm (List.perm_append_comm (l₁:=[_]) (l₂:=[_,_])),_,(by omega),j+1,_,[(q2,.tok)],rfl,rfl,rfl,by omega,.inr ⟨q2,by rw [aF];rfl,rfl⟩⟩
    have qF:((T.take j).map (x::·))=T.map (x::·):=(by rw [List.take_of_length_le (by omega)]);rw [CP] at qF;(conv=>whnf);repeat ((first|refine ⟨ah ⟨by omega,by omega⟩,?_⟩|(refine ⟨_,.tail _ (.head _),⟨ub iQ,Ak⟩,fun b4=>⟨_,.there (.here _),?_⟩⟩));conv=>whnf)
    have qG:ag .aT (lW (T.map (x::·))):=by rw [<- qF];exact ag.nil (by decide)
    exact ⟨_,_,ao.trans (ao.cells (ys:=(((gr g most es).take k).map gq).flatten++(gq (T.map (x::·))++[])) (.there (.here _)) (cW.pre (.cons qG .nil) _)) (ao.refl _ _),_,(by omega),k+1,_,[(b4,_)],rfl,rfl,rfl,by omega,.inr ⟨b4,by rw [cp];simp,(by rw [cp,List.length_append];rfl),(by rw [cp,List.map_append,List.flatten_append];rfl)⟩⟩
   (conv=>whnf);skip;refine ⟨fun eG=>?_,fun eG=>?_⟩<;>simp at eG
   ·obtain ⟨p,hp⟩:=aL (l:=T) (i:=j) (by omega);have wJ:=uj p (List.mem_of_getElem? hp);have aF:((T.take (j+1)).map (x::·)).map dp=((T.take j).map (x::·)).map dp++[[.au (.int .i64 (x.cost+cn p)::(cr x.word++[.au (qD p)]))]]:=by rw [dj hp,List.map_append,List.map_append];show _++[[AV.au (.int .i64 (cn (x::p))::_)]]=_;rw [wR];rfl
    (conv=>whnf);repeat ((first|refine ⟨ah ⟨by omega,by omega⟩,?_⟩|refine ix (by assumption) ?_|refine And.intro (by show aP (aN Tryz.f98 _) _=true;decide +kernel) ?_);conv=>whnf)
    refine ⟨(by rw [List.length_append,List.length_map,mW];simp;unfold aU;omega),fun q2=>⟨_,.there (.there (.here _)),?_⟩⟩;(conv=>whnf);repeat (refine ⟨ah ⟨by omega,by omega⟩,?_⟩;conv=>whnf)
    exact ⟨_,_,ao.refl _ _,_,(by omega),j+1,_,[(q2,.tok)],rfl,rfl,rfl,by omega,.inr ⟨q2,by rw [aF];rfl,rfl⟩⟩
   have qF:((T.take j).map (x::·))=T.map (x::·):=(by rw [List.take_of_length_le (by omega)]);rw [qF];(conv=>whnf);repeat ((first|refine ⟨ah ⟨by omega,by omega⟩,?_⟩|(refine ⟨_,.tail _ (.head _),⟨ub iQ,Ak⟩,fun b4=>⟨_,.there (.here _),?_⟩⟩));conv=>whnf)
   have qG:ag (.sl 1 (some q) ((T.map (x::·)).map dp)) (lW (T.map (x::·))):=ag.sl;exact ⟨_,_,ao.trans (ao.trans (ao.cells (ys:=(((gr g most es).take k).map gq).flatten++(gq (T.map (x::·))++[])) (.there (.here _)) (cW.pre (.cons qG .nil) _)) (ao.refl _ _)) (ao.drop (.there (.there (.here _)))),_,(by omega),k+1,_,[(b4,_)],rfl,rfl,rfl,by omega,.inr ⟨b4,by rw [cp];simp,(by rw [cp,List.length_append];rfl),(by rw [cp,List.map_append,List.flatten_append];rfl)⟩⟩
  have fi:(gr g most es).take k=gr g most es:=List.take_of_length_le (by unfold gr;rw [List.length_map];omega);have gR:=OV hg (m:=most) bc;have Wp:∀ l∈gr g most es,l.length<=65536:=by intro l sU;unfold gr at sU;obtain ⟨x,-,rfl⟩:=List.mem_map.1 sU;have:=FU g most x.to.toNat;rw [List.length_map];omega
  rw [fi];(conv=>whnf);skip;refine aB.mono ?_ (aB.re (h2:=[(b,.vec (ep (g.length+1) (TT g most (d+1))))]) (R':=fun v H=>v=lW (fo (gr g most es) most)/\H=[(b,.vec (ep (g.length+1) (TT g most (d+1))))]) (FT (gr g most es) (List.length_pos_iff.2 (fi ▸ ml)) (by unfold gr;rw [List.length_map];omega) Wp most hm lb) (List.Perm.swap _ _ _) ?_)
  ·rintro v h1 ⟨rfl,rfl⟩;(conv=>whnf);repeat ((first|refine ⟨ah ⟨by omega,by omega⟩,?_⟩|(refine ⟨d,ah ⟨rfl,by omega⟩,?_⟩)|(refine CO ?_ (.here _) ?_;(focus (show 0+d*1<g.length+1;omega))));conv=>whnf)
   refine ⟨_,_,ao.refl _ _,_,(by omega),d,_,rfl,?_,rfl,rfl,by omega⟩;refine congrArg (fun z=>[(b,Ob.vec z)]) (yO fun j hj=>?_);unfold TT;by_cases h:j=d
   ·rw [if_pos (show j=0+d*1 by omega),if_pos (by omega),h,<- gR,show fo (gr g most es) most=fo (gr g most es) most from rfl]
   rw [if_neg (show ¬ j=0+d*1 by omega)];by_cases h2:d+1<=j
   ·rw [if_pos h2,if_pos (by omega)]
   rw [if_neg h2,if_neg (by omega)]
  rintro v h1 ⟨rfl,rfl⟩;exact ⟨_,.refl _,rfl,rfl⟩
 obtain rfl:a=0:=by omega
 have fH:=FU g most 0;have vA:=OX hg (j:=0) (by omega) most;rw [OY hg];have AE:TT g most 0 (0+0*1)=lW (tl g most 0):=rfl;obtain ⟨T,hT⟩:∃ T,T=tl g most 0:=⟨_,rfl⟩;rw [<- hT] at fH vA AE;rw [<- hT];(conv=>whnf);skip;refine bW rfl mixed [5,12,13] [] (fun m r h=>∃ (i:Nat) (ov:AV) (oh:af),r=[(5,[],.aQ b 0 (g.length+1) 1),(12,[],ov),(13,[],.int .i64 i)]/\h=(b,.vec (ep (g.length+1) (TT g most 0)))::oh/\m=T.length - i/\i<=T.length/\Out 2 kI ((T.take i).map wS) ov oh) ?_ ?_
 ·(conv=>whnf);exact ⟨_,_,ao.refl _ _,_,0,.aT,[],rfl,rfl,rfl,by omega,.inl ⟨rfl,rfl,rfl⟩⟩
 rintro m r h' ⟨i,ov,oh,rfl,rfl,rfl,hi,ho⟩;(conv=>whnf);repeat ((first|(refine fx (i:=0) (by omega) ?_)|(refine vz (lW T) (.head _) rfl (by omega) AE ?_));conv=>whnf)
 refine ⟨fun aD=>?_,fun aD=>?_⟩<;>simp at aD
 ·obtain ⟨p,hp⟩:=aL (l:=T) (i:=i) (by omega);obtain ⟨ej,IC⟩:=vA p (List.mem_of_getElem? hp);have mW:((T.take i).map wS).length=i:=by rw [List.length_map,List.length_take];omega
  have oP:((T.take (i+1)).map wS).map kI=((T.take i).map wS).map kI++[[.sl 4 none ((p.map (·.word)).map cr),.int .i64 (cn p)]]:=by rw [dj hp,List.map_append,List.map_append];rfl
  rcases ho with ⟨pG,rfl,rfl⟩|⟨q,rfl,rfl⟩
  ·skip;(conv=>whnf);repeat ((first|refine ix (by assumption) ?_|(intro (rb:Nat))|(refine fx (i:=0) (by omega) ?_)|(refine vz (lW T) (.head _) rfl (by omega) AE ?_)|(refine vz (lW T) (.tail _ (.head _)) rfl (by omega) AE ?_)|refine ⟨_,_,.here _,aR,?_⟩);conv=>whnf)
   refine bW rfl mixed [5,12,13,14,15] [] (fun m r h=>∃ (pc L:List av) (wv:AV) (wh:af) (rb:Nat),r=[(5,[],.aQ b 0 (g.length+1) 1),(12,[],.aT),(13,[],.int .i64 i),(14,[],.bj rb 0),(15,[],.au (qD pc))]/\h=(rb,.vec [wv,.int .i64 (cn p)])::(b,.vec (ep (g.length+1) (TT g most 0)))::([]++wh)/\m=pc.length/\p=L++pc/\Out 4 cr (L.map (·.word)) wv wh) ?_ ?_
   ·(conv=>whnf);exact ⟨_,_,ao.refl _ _,_,p,[],.aT,[],rb,rfl,rfl,rfl,rfl,.inl ⟨rfl,rfl,rfl⟩⟩
   rintro m r h' ⟨pc,L,wv,wh,rb,rfl,rfl,rfl,hD,hw⟩;cases pc with
   | nil=>
     have JE:p=L:=(by rw [hD,List.append_nil]);have JF:ag wv (.sl 4 none ((p.map (·.word)).map cr)):=by rw [JE];exact hw.le (by decide)
     (conv=>whnf);skip;refine ⟨fun hz=>absurd hz (by decide),fun _=>?_⟩;(conv=>whnf);repeat ((first|refine ⟨ah ⟨by omega,by omega⟩,?_⟩|(refine ⟨Nat.le_of_ble_eq_true rfl,fun q2=>?_⟩)|refine ⟨_,_,.head _,rfl,?_⟩);conv=>whnf)
     exact ⟨_,_,ao.trans (ao.sF (.cons (ag.refl _) (.cons (ag.nT (.cons (.cons JF (.cons (ag.refl _) .nil)) .nil)) (jQ.refl _)))) (ao.trans (ao.perm (List.perm_middle (l₁:=[_,_]))) (ao.left (A:=[(b,.vec (ep (g.length+1) (TT g most 0))),(q2,.tok)]) (Z:=(rb,.vec [wv,.int .i64 (cn p)])::wh))),_,(by omega),i+1,_,[(q2,.tok)],rfl,rfl,rfl,by omega,.inr ⟨q2,(by rw [oP,pG];rfl),rfl⟩⟩
   | cons x r=>
     have jX:=IC x (by rw [hD];simp);have Fu:(L.map (·.word)).length<=60:=by rw [hD] at ej;simp at ej;rw [List.length_map];omega
     (conv=>whnf);skip;refine ⟨fun _=>?_,fun hz=>absurd hz (by decide)⟩;rcases hw with ⟨JG,rfl,rfl⟩|⟨q3,rfl,rfl⟩
     ·(conv=>whnf);repeat ((first|refine ba (FW x.word (by have:=jX.cl;unfold aU;omega) (by have:=jX.us;unfold aU;omega)) ?_|refine ⟨_,_,.head _,rfl,?_⟩|refine And.intro (by show aP (aN Tryz.f98 _) _=true;decide +kernel) ?_);conv=>whnf)
      refine ⟨Nat.le_of_ble_eq_true rfl,fun q4=>?_⟩;(conv=>whnf);repeat (refine ⟨_,_,.there (.here _),aR,?_⟩;conv=>whnf)
      exact ⟨_,_,ao.perm (List.perm_append_comm (l₁:=[_]) (l₂:=[_,_])),_,Nat.lt_succ_self _,r,L++[x],_,[(q4,.tok)],rb,rfl,rfl,rfl,by rw [hD,List.append_assoc];rfl,.inr ⟨q4,by rw [List.map_append,JG];rfl,rfl⟩⟩
     (conv=>whnf);repeat ((first|refine ba (FW x.word (by have:=jX.cl;unfold aU;omega) (by have:=jX.us;unfold aU;omega)) ?_|refine ⟨_,_,.head _,rfl,?_⟩|refine And.intro (by show aP (aN Tryz.f98 _) _=true;decide +kernel) ?_);conv=>whnf)
     refine ⟨(by rw [List.length_append,List.length_map];simp at Fu ⊢;unfold aU;omega),fun q4=>⟨_,.there (.there (.here _)),?_⟩⟩;(conv=>whnf);repeat (refine ⟨_,_,.here _,aR,?_⟩;conv=>whnf)
     exact ⟨_,_,ao.refl _ _,_,Nat.lt_succ_self _,r,L++[x],_,[(q4,.tok)],rb,rfl,rfl,rfl,by rw [hD,List.append_assoc];rfl,.inr ⟨q4,by rw [List.map_append,List.map_append];rfl,rfl⟩⟩
  skip;(conv=>whnf);repeat ((first|refine ix (by assumption) ?_|(intro (rb:Nat))|(refine fx (i:=0) (by omega) ?_)|(refine vz (lW T) (.head _) rfl (by omega) AE ?_)|(refine vz (lW T) (.tail _ (.head _)) rfl (by omega) AE ?_)|refine ⟨_,_,.here _,aR,?_⟩);conv=>whnf)
  refine bW rfl mixed [5,12,13,14,15] [] (fun m r h=>∃ (pc L:List av) (wv:AV) (wh:af) (rb:Nat),r=[(5,[],.aQ b 0 (g.length+1) 1),(12,[],.sl 2 (some q) (((T.take i).map wS).map kI)),(13,[],.int .i64 i),(14,[],.bj rb 0),(15,[],.au (qD pc))]/\h=(rb,.vec [wv,.int .i64 (cn p)])::(b,.vec (ep (g.length+1) (TT g most 0)))::([(q,.tok)]++wh)/\m=pc.length/\p=L++pc/\Out 4 cr (L.map (·.word)) wv wh) ?_ ?_
  ·(conv=>whnf);exact ⟨_,_,ao.refl _ _,_,p,[],.aT,[],rb,rfl,rfl,rfl,rfl,.inl ⟨rfl,rfl,rfl⟩⟩
  rintro m r h' ⟨pc,L,wv,wh,rb,rfl,rfl,rfl,hD,hw⟩;cases pc with
  | nil=>
    have JE:p=L:=(by rw [hD,List.append_nil]);have JF:ag wv (.sl 4 none ((p.map (·.word)).map cr)):=by rw [JE];exact hw.le (by decide)
    (conv=>whnf);skip;refine ⟨fun hz=>absurd hz (by decide),fun _=>?_⟩;(conv=>whnf);repeat ((first|refine ⟨ah ⟨by omega,by omega⟩,?_⟩|(refine ⟨(by rw [List.length_append,List.length_map,mW];simp;unfold aU;omega),fun q2=>⟨_,.there (.there (.here _)),?_⟩⟩)|refine ⟨_,_,.head _,rfl,?_⟩);conv=>whnf)
    exact ⟨_,_,ao.trans (ao.sF (.cons (ag.refl _) (.cons (ag.nT (iR.pre (.cons (.cons JF (.cons (ag.refl _) .nil)) .nil) _)) (jQ.refl _)))) (ao.trans (ao.perm (List.perm_middle (l₁:=[_,_])).symm) (ao.left (A:=[(b,.vec (ep (g.length+1) (TT g most 0))),(q2,.tok)]) (Z:=(rb,.vec [wv,.int .i64 (cn p)])::wh))),_,(by omega),i+1,_,[(q2,.tok)],rfl,rfl,rfl,by omega,.inr ⟨q2,(by rw [oP]),rfl⟩⟩
  | cons x r=>
    have jX:=IC x (by rw [hD];simp);have Fu:(L.map (·.word)).length<=60:=by rw [hD] at ej;simp at ej;rw [List.length_map];omega
    (conv=>whnf);skip;refine ⟨fun _=>?_,fun hz=>absurd hz (by decide)⟩;rcases hw with ⟨JG,rfl,rfl⟩|⟨q3,rfl,rfl⟩
    ·(conv=>whnf);repeat ((first|refine ba (FW x.word (by have:=jX.cl;unfold aU;omega) (by have:=jX.us;unfold aU;omega)) ?_|refine ⟨_,_,.head _,rfl,?_⟩|refine And.intro (by show aP (aN Tryz.f98 _) _=true;decide +kernel) ?_);conv=>whnf)
     refine ⟨Nat.le_of_ble_eq_true rfl,fun q4=>?_⟩;(conv=>whnf);repeat (refine ⟨_,_,.there (.here _),aR,?_⟩;conv=>whnf)
     exact ⟨_,_,ao.perm (List.perm_append_comm (l₁:=[_]) (l₂:=[_,_,_])),_,Nat.lt_succ_self _,r,L++[x],_,[(q4,.tok)],rb,rfl,rfl,rfl,by rw [hD,List.append_assoc];rfl,.inr ⟨q4,by rw [List.map_append,JG];rfl,rfl⟩⟩
    (conv=>whnf);repeat ((first|refine ba (FW x.word (by have:=jX.cl;unfold aU;omega) (by have:=jX.us;unfold aU;omega)) ?_|refine ⟨_,_,.head _,rfl,?_⟩|refine And.intro (by show aP (aN Tryz.f98 _) _=true;decide +kernel) ?_);conv=>whnf)
    refine ⟨(by rw [List.length_append,List.length_map];simp at Fu ⊢;unfold aU;omega),fun q4=>⟨_,.there (.there (.there (.here _))),?_⟩⟩;(conv=>whnf);repeat (refine ⟨_,_,.here _,aR,?_⟩;conv=>whnf)
    exact ⟨_,_,ao.refl _ _,_,Nat.lt_succ_self _,r,L++[x],_,[(q4,.tok)],rb,rfl,rfl,rfl,by rw [hD,List.append_assoc];rfl,.inr ⟨q4,by rw [List.map_append,List.map_append];rfl,rfl⟩⟩
 have qF:T.take i=T:=List.take_of_length_le (by omega);rw [qF] at ho;(conv=>whnf);skip;exact ho.le (by decide)
end Go.Abs.Wall.Lst
namespace Go.Abs.Wall.Lst
open Go Go.Abs Go.Proofs Go.Abs.Wall
def pH:sT:=⟨[],0⟩
def ea (H:aj) (line:List Int):sT:=(eI H line 1).headD pH
theorem JH {g:List (List av)} {m:Nat} (hm:1<=m):fA g m=[]↔bk g 0=[]:=by
 unfold fA;rw [List.map_eq_nil_iff];cases bk g 0 with
 | nil=>simp
 | cons p r=>cases m with
   | zero=>omega
   | succ m=>simp
def c145:az:=⟨[0,1,2,3,6,7,8,9,10,18,25,31],[],[],[],[],[]⟩
def c46:az:=⟨[0,1,2,4,5,6,7,15],[],[],[],[],[]⟩
def c88:az:=⟨[0,1,2,4,5,6,7,15],[],[],[],[],[]⟩
theorem Wq (H:aj) (line:List Int) (most:Int) (hf:dU H) (hl:line.length<=1048576) :
  ae Tryz.prog 145 [.agg (bu H),.sl 1 none (ints line),.int .i64 most] [] (.aH [.sl 2 none ((eI H line most).map kI),.int .i64 (cC H line most)]):=by
 refine ae.of ?_;refine aG (F:=Tryz.f145) c145 rfl rfl rfl mixed rfl fun X=>?_;(conv=>whnf);repeat (refine ae.k0 (VP H line hf hl) ?_;conv=>whnf)
 refine ⟨fun h0=>?_,fun h0=>?_⟩<;>simp at h0
 ·have he:cC H line most=df H line:=by unfold cC;rw [if_pos h0]
  (conv=>whnf);skip;unfold eI;rw [he,if_neg h0];exact ag.aH (.cons (ag.nil (by decide)) (.cons (ag.refl _) .nil))
 obtain ⟨hL,wL,hg⟩:=oL h0;obtain ⟨g,iP⟩:∃ g,g=bX H line:=⟨_,rfl⟩;have Wr:wK H line=g:=(by rw [wK,if_pos h0,iP]);have fm:cC H line most=if 1<=most/\most<=64 then (if bk g 0=[] then 52 else 0) else 1:=by unfold cC;rw [if_neg (by omega),iP]
 have dF:eI H line most=if cC H line most=0 then fA g most.toNat else []:=by unfold eI;rw [iP]
 rw [<- iP] at hg wL;rw [Wr,h0];(conv=>whnf);skip;refine ⟨fun hm=>?_,fun hm=>?_⟩<;>simp at hm
 ·(conv=>whnf);skip;rw [dF,fm,if_neg (show ¬ (1<=most/\most<=64) by omega),if_neg (by decide)];exact ag.aH (.cons (ag.nil (by decide)) (.cons (ag.refl _) .nil))
 have Ws:1<=most/\most<=64:=(by omega);rw [if_pos Ws] at fm;obtain ⟨m,rfl⟩:∃ m:Nat,most=(m:Int):=⟨most.toNat,by omega⟩;(conv=>whnf);repeat (refine ae.k0 (Wo g hg m (by omega) (by omega)) ?_;conv=>whnf)
 refine ⟨fun hz=>?_,fun hz=>?_⟩<;>simp at hz
 ·have fU:bk g 0=[]:=(JH (by omega)).1 hz;(conv=>whnf);skip;rw [dF,fm,if_pos fU,if_neg (by decide)];exact ag.aH (.cons (ag.nil (by decide)) (.cons (ag.refl _) .nil))
 have fU:bk g 0≠[]:=fun e=>hz ((JH (by omega)).2 e);(conv=>whnf);skip;rw [dF,fm,if_neg fU,if_pos rfl];exact ag.refl _
theorem JI {H:aj} {line:List Int} (h:cC H line 1=0):∃ r l,eI H line 1=r::l/\ea H line=r:=by
 have hl:eI H line 1=fA (bX H line) (1:Int).toNat:=by unfold eI;rw [if_pos h]
 unfold cC at h;split at h
 ·rename_i h1;exact absurd h h1
 rw [if_pos (by decide)] at h;split at h
 ·cases h
 rename_i h2;cases hr:eI H line 1 with
 | nil=>rw [hl] at hr;exact absurd ((JH (by decide)).1 hr) h2
 | cons r l=>exact ⟨r,l,rfl,by unfold ea;rw [hr];rfl⟩
theorem yP {H:aj} {line:List Int} (h:cC H line 1≠0):ea H line=pH:=by unfold ea eI;rw [if_neg h];rfl
theorem rM (H:aj) (line:List Int) (hf:dU H) (hl:line.length<=1048576) :
  ae Tryz.prog 46 [.agg (bu H),.sl 1 none (ints line)] [] (.aH [.agg (kI (ea H line)),.int .i64 (cC H line 1)]):=by
 refine ae.of ?_;refine aG (F:=Tryz.f46) c46 rfl rfl rfl mixed rfl fun X=>?_;(conv=>whnf);intro rb;(conv=>whnf);repeat (refine ae.k0 (Wf H line 1 hf hl) ?_;conv=>whnf)
 refine ⟨fun hz=>?_,fun hz=>?_⟩<;>simp at hz
 ·(conv=>whnf);repeat ((first|(refine ⟨_,_,.here _,aR,?_⟩)|refine ⟨_,_,.head _,rfl,?_⟩);conv=>whnf)
  rw [yP hz];exact ag.aH (.cons (ag.agg (.cons (ag.nil (by decide)) (.cons (ag.refl _) .nil))) (.cons (ag.refl _) .nil))
 obtain ⟨r,l,h1,h2⟩:=JI hz;rw [h1,h2,hz];(conv=>whnf);repeat ((first|(refine dg (enc:=kI) 0 rfl rfl ?_)|refine ⟨_,_,.head _,rfl,?_⟩|refine ⟨_,_,.here _,aR,?_⟩);conv=>whnf)
 exact ag.refl _
theorem FY (H:aj) (line:List Int) (hf:dU H) (hl:line.length<=1048576) :
  ae Tryz.prog 88 [.agg (bu H),.sl 1 none (ints line)] [] (.aH [.agg (kI (ea H line)),.int .i64 (cC H line 1)]):=by
 refine ae.of ?_;refine aG (F:=Tryz.f88) c88 rfl rfl rfl mixed rfl fun X=>?_;(conv=>whnf);intro rb;(conv=>whnf);repeat (refine ae.k0 (Wq H line 1 hf hl) ?_;conv=>whnf)
 refine ⟨fun hz=>?_,fun hz=>?_⟩<;>simp at hz
 ·(conv=>whnf);repeat ((first|(refine ⟨_,_,.here _,aR,?_⟩)|refine ⟨_,_,.head _,rfl,?_⟩);conv=>whnf)
  rw [yP hz];exact ag.aH (.cons (ag.agg (.cons (ag.nil (by decide)) (.cons (ag.refl _) .nil))) (.cons (ag.refl _) .nil))
 obtain ⟨r,l,h1,h2⟩:=JI hz;rw [h1,h2,hz];(conv=>whnf);repeat ((first|(refine dg (enc:=kI) 0 rfl rfl ?_)|refine ⟨_,_,.head _,rfl,?_⟩|refine ⟨_,_,.here _,aR,?_⟩);conv=>whnf)
 exact ag.refl _
def yQ (r:sT):Prop:=r.words.length<=60/\∀ w∈r.words,pz w
theorem Wt {H:aj} {line:List Int} {most:Int}:∀ r∈eI H line most,yQ r:=by
 unfold eI;split
 ·rename_i he
  have h0:df H line=0:=by
   unfold cC at he;split at he
   ·rename_i h1;exact absurd he h1
   rename_i h1;simpa using h1
  obtain ⟨hL,wL,hg⟩:=oL h0;intro r hr;rw [OY hg] at hr;obtain ⟨p,hp,rfl⟩:=List.mem_map.1 hr;obtain ⟨h1,h2⟩:=OX hg (j:=0) (by omega) _ p hp;refine ⟨by show (p.map _).length<=60;rw [List.length_map];exact h1,fun w hw=>?_⟩;obtain ⟨x,hx,rfl⟩:=List.mem_map.1 hw;exact h2 x hx
 simp
theorem CQ {H:aj} {line:List Int}:yQ (ea H line):=by
 by_cases h:cC H line 1=0
 ·obtain ⟨r,l,h1,h2⟩:=JI h;rw [h2];exact Wt r (by rw [h1];simp)
 rw [yP h];exact ⟨by decide,fun w hw=>by cases hw⟩
end Go.Abs.Wall.Lst
