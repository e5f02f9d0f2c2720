/- What is proved: small laws for the walks of this seat, and contracts of its functions. No condition but those each theorem names. -/
import Derived.Test.YtbmcnieifibckaaGreatN15
set_option maxRecDepth 100000
set_option maxHeartbeats 2000000
set_option linter.unusedVariables false
set_option linter.unusedSimpArgs false
namespace Go.Abs.Wall.Lst
open Go Go.Abs Go.Proofs Go.Abs.Wall
def gA (p:nr):tB:=⟨p.2.map (·.word),p.1⟩
theorem pe {g:List (List az)} (hg:gV g) {i ρ:Nat} (hi:i<g.length) {w:Wy} {p:nr} (hw:(fj g i)[ρ]?=some w) (hp:(bu g i)[ρ]?=some p) :
  ∃ es x w' p',g[i]?=some es/\es[w.aP]?=some x/\DX g.length i x/\(fj g x.to.toNat)[w.aO]?=some w'/\(bu g x.to.toNat)[w.aO]?=some p'/\p=(w.cost,x::p'.2):=by
 obtain ⟨es,bp⟩:=aN hi;have hE:=hg.aP i es bp;rw [uC bp hE,List.getElem?_map] at hp;unfold fj at hw;rw [bp] at hw;simp only at hw;rw [hw] at hp;have hp:kD es (fun x=>bu g x.to.toNat) w=p:=(by simpa using hp);obtain ⟨_,l,h2,h3⟩:=iN hw;have aL:=(List.getElem?_eq_some_iff.1 h2).1;rw [Eg] at aL;obtain ⟨x,hx⟩:=aN aL;have ho:=hE x (List.mem_of_getElem? hx);obtain ⟨l',e1,e2⟩:=Bz hg bp hx;rw [h2] at e1;cases e1
 rw [e2] at h3;cases hq:(fj g x.to.toNat)[w.aO]? with
 | none=>rw [hq] at h3;cases h3
 | some w'=>
   have:=zo hg (i:=x.to.toNat) (by have:=ho.hi;omega) w.aO;rw [hq] at this;cases hr:(bu g x.to.toNat)[w.aO]? with
   | none=>rw [hr] at this;cases this
   | some p'=>
     refine ⟨es,x,w',p',bp,hx,ho,hq,hr,?_⟩;rw [<- hp];unfold kD;rw [hx];simp only;rw [List.getD_eq_getElem?_getD,hr];rfl
theorem Uo {g:List (List az)} {ρ:Nat} {w:Wy} {p:nr} (hw:(fj g g.length)[ρ]?=some w) (hp:(bu g g.length)[ρ]?=some p):p.2=[]/\ρ=0:=by
 rw [vW] at hp;cases ρ with
 | zero=>simp at hp;subst hp;exact ⟨rfl,rfl⟩
 | succ n=>simp at hp
theorem Uq {g:List (List az)} {i ρ:Nat} {w:Wy} (hw:(fj g i)[ρ]?=some w):w.aO<=ρ:=by
 unfold fj at hw;split at hw
 ·cases ρ with
  | zero=>simp at hw;subst hw;exact Nat.le_refl _
  | succ n=>simp at hw
 exact Bs hw
def c148:aw:=⟨[0,1,4,5,6,7,8,17,31],[],[8],[],[(7,[0,1,2,3,4,5,6,7,8,9,10,11,12,13,14,15],[8]),(8,[0,1,2,3,4,5,6,7,8],[])],[]⟩
def uI (g:List (List az)) (aO:Nat):AV:=match (bu g 0)[aO]? with
 | none=>.aQ [.agg [.aW,.int .i64 0],.bool false]
 | some p=>.aQ [.agg (om (gA p)),.bool true]
theorem Ur (g:List (List az)) (hg:gV g) (tb:Nat) (R:List Int) (ks:List Nat) (nq:Option Nat) (nv:AV) (dX:ks.length=g.length) (BB:g=[]\/nv=.sl 1 nq (ks.map mC)) (aO:Nat) (hr:aO<=64) (hp:ab) (hN:eS g 0 ks hp) :
  ay Tryz.prog 148 [.bn tb 0,.int .i64 aO] ((tb,fU g R nv)::hp) (fun v h'=>v=uI g aO/\∃ aZ,eS g 0 ks aZ/\h'=(tb,fU g R nv)::aZ):=by
 have MW:=hg.bE
 have Nc:∀ (A B:ab) (hp:ab) (i r:Nat),i<=g.length->r<=64->eS g 0 ks hp->ay Tryz.prog 216 [.bn tb 0,.int .i64 i,.int .i64 r] (A++(tb,fU g R nv)::(B++hp)) (fun v h'=>v=bW g i r/\∃ aZ,eS g 0 ks aZ/\h'=A++(tb,fU g R nv)::(B++aZ)):=by
  intro A B hp i r hi hr hN;obtain ⟨hA,hB,rfl,nA,nB⟩:=hN.split i (by omega);rw [Nat.zero_add] at nB;have gx:(ks.take i).length=i:=by rw [List.length_take];omega
  have h1:=getAll g hg (g.length - i) i (by omega) tb R (ks.take i) (ks.drop i) nq nv r hB gx (by rw [List.take_append_drop];exact dX) (by rw [List.take_append_drop];exact BB) nB hr
  have pm:∀ hB:ab,((tb,fU g R nv)::hB++(A++(B++hA))).Perm (A++(tb,fU g R nv)::(B++(hA++hB))):=fun hB=>
   (List.Perm.cons _ Hz).trans List.perm_middle.symm
  refine ay.re h1 (h2:=A++(B++hA)) (pm hB) ?_;rintro v h3 ⟨rfl,aZ,jj,rfl⟩;refine ⟨_,pm aZ,rfl,hA++aZ,?_,rfl⟩;have:=nA.join (by rw [gx,Nat.zero_add];exact jj);rwa [List.take_append_drop] at this
 refine ay.post (R:=fun v h'=>∃ v',v'=uI g aO/\ag v v'/\∃ aZ Z,eS g 0 ks aZ/\h'.Perm ((tb,fU g R nv)::aZ++Z)) ?_ ?_
 ·refine aG (F:=Tryz.f148) c148 rfl rfl rfl mixed rfl fun X=>?_;(conv=>whnf);intro rb;(conv=>whnf);skip;refine ay.mono ?_ (Nc [(rb,.vec [.aW,.int .i64 0])] [] hp 0 aO (by omega) hr hN);clear hN;rintro v h1 ⟨rfl,hp,hN,rfl⟩;cases hw:(fj g 0)[aO]? with
  | none=>
    have dy:bW g 0 aO=.aQ [.agg (al rV),.bool false]:=by unfold bW;rw [hw]
    rw [dy];(conv=>whnf);intro wb;(conv=>whnf);repeat (refine ⟨_,_,.here _,aF,?_⟩;conv=>whnf)
    refine cT rfl ?_;(conv=>whnf);repeat ((first|(refine ⟨_,_,.there (.here _),aF,?_⟩)|refine ⟨_,_,.tail _ (.head _),rfl,?_⟩);conv=>whnf)
    have lF:(bu g 0)[aO]?=none:=by
     have:=zo hg (i:=0) (by omega) aO;rw [hw] at this;cases hq:(bu g 0)[aO]? with
     | none=>rfl
     | some p=>rw [hq] at this;cases this
    refine ⟨_,rfl,?_,hp,[(wb,_),(rb,_)],hN,(List.perm_append_comm (l₁:=[_,_]) (l₂:=(tb,fU g R nv)::hp))⟩;unfold uI;rw [lF];exact ag.refl _
  | some w0=>
    have dy:bW g 0 aO=.aQ [.agg (al w0),.bool true]:=by unfold bW;rw [hw]
    obtain ⟨p,lG⟩:∃ p,(bu g 0)[aO]?=some p:=by
     have:=zo hg (i:=0) (by omega) aO;rw [hw] at this;cases hq:(bu g 0)[aO]? with
     | none=>rw [hq] at this;cases this
     | some p=>exact ⟨p,rfl⟩
    have lZ:p.1=w0.cost:=by have:=zo hg (i:=0) (by omega) aO;rw [hw,lG] at this;simpa using this
    rw [dy];(conv=>whnf);intro wb;(conv=>whnf);repeat (refine ⟨_,_,.here _,aF,?_⟩;conv=>whnf)
    refine cF rfl ?_;(conv=>whnf);repeat ((first|(refine ⟨_,_,.there (.here _),aF,?_⟩)|refine ⟨_,_,.head _,rfl,?_⟩);conv=>whnf)
    refine cy rfl mixed [0,4,6,7] [] (fun m r h=>∃ (i ρ:Nat) (w:Wy) (pc:nr) (L:List az) (wv:AV) (wh hp:ab) (rb wb:Nat),r=[(0,[],.bn tb 0),(4,[],.bn rb 0),(6,[],.int .i64 i),(7,[],.bn wb 0)]/\h=(wb,.vec (al w))::(rb,.vec [wv,.int .i64 p.1])::(tb,fU g R nv)::(wh++hp)/\m=g.length - i/\i<=g.length/\(fj g i)[ρ]?=some w/\(bu g i)[ρ]?=some pc/\p.2=L++pc.2/\ρ<=64/\Out 4 du (L.map (·.word)) wv wh/\eS g 0 ks hp/\L.length<=i) ?_ ?_
    ·(conv=>whnf);exact ⟨_,_,ar.refl _ _,_,0,aO,w0,p,[],.aW,[],hp,rb,wb,rfl,by rw [lZ];rfl,rfl,by omega,hw,lG,rfl,hr,.inl ⟨rfl,rfl,rfl⟩,hN,Nat.le_refl _⟩
    clear hN;rintro m r h' ⟨i,ρ,w,pc,L,wv,wh,hp,rb,wb,rfl,rfl,rfl,hi,HI,Nd,hL,hρ,ho,hN,N9⟩;(conv=>whnf);repeat ((refine ⟨_,_,.tail _ (.tail _ (.head _)),rfl,?_⟩);conv=>whnf)
    refine ⟨fun hz=>?_,fun hz=>?_⟩<;>simp at hz
    ·obtain ⟨es,x,w',p',bp,hx,lE,nu,aZ,gU⟩:=pe hg hz HI Nd;have MX:=lE.lo;have MY:=lE.hi;have oq:=lE.fit;have gz:((x.to.toNat:Nat):Int)=x.to:=Int.toNat_of_nonneg (by omega);have oU:=Uq HI;have jb:((L.map (·.word)).map du).length=L.length:=(by simp);have HJ:=fun A B hp hN=>Nc A B hp x.to.toNat w.aO (by omega) (by omega) hN;rw [gz] at HJ;have BG:bW g x.to.toNat w.aO=.aQ [.agg (al w'),.bool true]:=by unfold bW;rw [nu]
     rcases ho with ⟨tg,rfl,rfl⟩|⟨q,rfl,rfl⟩
     ·(conv=>whnf);repeat ((first|refine ix (by assumption) ?_|(refine ⟨_,_,.tail _ (.tail _ (.head _)),rfl,?_⟩)|refine aX (Nf x.word (by have:=oq.cl;unfold aV;omega) (by have:=oq.us;unfold aV;omega)) ?_|refine ⟨_,_,aK.here _,?_⟩|refine ⟨_,_,.head _,rfl,?_⟩|refine ⟨_,_,.tail _ (.head _),rfl,?_⟩|refine ⟨_,_,.here _,aF,?_⟩|refine And.intro (by show aJ (aH Tryz.f148 _) _=true;decide +kernel) ?_|intro (nb:Nat));conv=>whnf)
      refine ⟨Nat.le_of_ble_eq_true rfl,fun q=>?_⟩;(conv=>whnf);repeat ((first|(refine ⟨_,_,.there (.there (.here _)),aF,?_⟩)|refine ⟨_,_,.tail _ (.head _),rfl,?_⟩);conv=>whnf)
      refine ay.mono ?_ (HJ [(q,.tok),(wb,.vec (al w)),(rb,.vec [.sl 4 (some q) [du x.word],.int .i64 p.1])] [] hp hN);clear hN;rintro v h1 ⟨rfl,hp,hN,rfl⟩;rw [BG];(conv=>whnf);repeat ((refine ⟨_,_,.there (.here _),aF,?_⟩);conv=>whnf)
      exact ⟨_,_,ar.perm (List.perm_middle (l₁:=[_,_,_])).symm,_,(by omega),x.to.toNat,w.aO,w',p',L++[x],.sl 4 (some q) [du x.word],[(q,.tok)],hp,rb,wb,by rw [gz],rfl,rfl,by omega,nu,aZ,by rw [hL,gU,List.append_assoc];rfl,by omega,.inr ⟨q,by rw [List.map_append,tg];rfl,rfl⟩,hN,by rw [List.length_append];simp;omega⟩
     (conv=>whnf);repeat ((first|refine ix (by assumption) ?_|(refine ⟨_,_,.tail _ (.tail _ (.head _)),rfl,?_⟩)|refine aX (Nf x.word (by have:=oq.cl;unfold aV;omega) (by have:=oq.us;unfold aV;omega)) ?_|refine ⟨_,_,aK.here _,?_⟩|refine ⟨_,_,.head _,rfl,?_⟩|refine ⟨_,_,.tail _ (.head _),rfl,?_⟩|refine ⟨_,_,.here _,aF,?_⟩|refine And.intro (by show aJ (aH Tryz.f148 _) _=true;decide +kernel) ?_|intro (nb:Nat));conv=>whnf)
     refine ⟨(by rw [List.length_append,jb];simp;unfold aV;omega),fun q2=>⟨_,.there (.there (.there (.here _))),?_⟩⟩;(conv=>whnf);repeat ((first|(refine ⟨_,_,.there (.here _),aF,?_⟩)|refine ⟨_,_,.head _,rfl,?_⟩);conv=>whnf)
     refine ay.mono ?_ (HJ [(wb,.vec (al w)),(rb,.vec [.sl 4 (some q2) ((L.map (·.word)).map du++[du x.word]),.int .i64 p.1])] [(q2,.tok)] hp hN);clear hN;rintro v h1 ⟨rfl,hp,hN,rfl⟩;rw [BG];(conv=>whnf);repeat (refine ⟨_,_,.here _,aF,?_⟩;conv=>whnf)
     exact ⟨_,_,ar.refl _ _,_,(by omega),x.to.toNat,w.aO,w',p',L++[x],.sl 4 (some q2) ((L.map (·.word)).map du++[du x.word]),[(q2,.tok)],hp,rb,wb,by rw [gz],rfl,rfl,by omega,nu,aZ,by rw [hL,gU,List.append_assoc];rfl,by omega,.inr ⟨q2,by rw [List.map_append,List.map_append];rfl,rfl⟩,hN,by rw [List.length_append];simp;omega⟩
    have bO:i=g.length:=(by omega);subst bO;obtain ⟨HK,_⟩:=Uo HI Nd;(conv=>whnf);repeat ((first|(refine ⟨_,_,.there (.here _),aF,?_⟩)|refine ⟨_,_,.tail _ (.head _),rfl,?_⟩);conv=>whnf)
    refine ⟨_,rfl,?_,hp,(wb,.vec (al w))::(rb,.vec [wv,.int .i64 p.1])::wh,hN,?_⟩
    ·unfold uI;rw [lG];show ag _ (.aQ [.agg [.sl 4 none ((p.2.map (·.word)).map du),.int .i64 p.1],.bool true]);rw [hL,HK,List.append_nil];exact ag.aQ (.cons (ag.agg (.cons (ho.le (by decide)) (.cons (ag.refl _) .nil))) (.cons (ag.refl _) .nil))
    exact (List.perm_middle (l₁:=[_,_])).trans (List.Perm.cons _ (List.perm_append_comm (l₁:=_::_::wh) (l₂:=hp)))
 rintro v h1 ⟨v',rfl,hv,aZ,Z,jj,eH⟩;refine ⟨_,_,⟨rfl,aZ,jj,rfl⟩,hv,fun k o hm=>eH.mem_iff.2 (List.mem_append_left _ hm),fun hn=>?_⟩;have:=((eH.map (fun p:Nat × Ob=>p.1)).nodup_iff).1 hn;unfold keys;rw [List.map_append] at this;exact (List.nodup_append.1 this).1
def jk (g:List (List az)) (most:Nat):List tB:=((bu g 0).take most).map gA
def ew (H:ax) (line:List Int) (most:Int):Int:=if ed H line≠0 then ed H line else if 1<=most/\most<=64 then (if bu (dn H line) 0=[] then 52 else 0) else 1
def fx (H:ax) (line:List Int) (most:Int):List tB:=if ew H line most=0 then jk (dn H line) most.toNat else []
def c91:aw:=⟨[0,1,2,3,6,7,8,9,10,11,12,20,24,27,28,29,38,46],[],[11],[],[],[]⟩
theorem Us (H:ax) (line:List Int) (most:Int) (hf:eP H) (hl:line.length<=1048576) :
  ae Tryz.prog 91 [.agg (bJ H),.sl 1 none (ints line),.int .i64 most] [] (.aQ [.sl 2 none ((fx H line most).map om),.int .i64 (ew H line most)]):=by
 have Ut:=Uu H line hf hl;refine ae.of ?_;refine aG (F:=Tryz.f91) c91 rfl rfl rfl mixed rfl fun X=>?_;(conv=>whnf);repeat (refine ae.k0 (Ut) ?_;conv=>whnf)
 refine ⟨fun h0=>?_,fun h0=>?_⟩<;>simp at h0
 ·have he:ew H line most=ed H line:=by unfold ew;rw [if_pos h0]
  (conv=>whnf);skip;unfold fx;rw [he,if_neg h0];exact ag.aQ (.cons (ag.nil (by decide)) (.cons (ag.refl _) .nil))
 obtain ⟨hL,vU,hg⟩:=Bo h0;obtain ⟨g,pf⟩:∃ g,g=dn H line:=⟨_,rfl⟩;have dy:BH H line=.au (zp g (dJ g)):=(by rw [BH,if_pos h0,pf]);have jG:ew H line most=if 1<=most/\most<=64 then (if bu g 0=[] then 52 else 0) else 1:=by unfold ew;rw [if_neg (by omega),pf]
 have ep:fx H line most=if ew H line most=0 then jk g most.toNat else []:=by unfold fx;rw [pf]
 rw [<- pf] at hg vU;rw [dy,h0];(conv=>whnf);repeat (refine ae.k0 (within _ _ _) ?_;conv=>whnf)
 by_cases hm:1<=most/\most<=64
 rotate_left
 ·refine cT (by simp;omega) ?_;(conv=>whnf);skip;rw [ep,jG,if_neg hm,if_neg (by decide)];exact ag.aQ (.cons (ag.nil (by decide)) (.cons (ag.refl _) .nil))
 rw [if_pos hm] at jG;refine cF (by simp;omega) ?_;(conv=>whnf);skip;refine ay.mono ?_ (HH g hg);rintro v h1 ⟨tb,ks,nq,nv,hp,rfl,dX,BB,hN,rfl⟩;(conv=>whnf);skip;refine cy rfl mixed [6,9,27,28] [] (fun m r h=>∃ (j:Nat) (ov:AV) (oh hp:ab),r=[(6,[],ov),(9,[],.bn tb 0),(27,[],.int .i64 most),(28,[],.int .i64 j)]/\h=(tb,fU g (dJ g) nv)::(oh++hp)/\m=65 - j/\(j:Int)<=most/\j<=(bu g 0).length/\Out 2 om (((bu g 0).take j).map gA) ov oh/\eS g 0 ks hp) ?_ ?_
 ·(conv=>whnf);exact ⟨_,_,ar.refl _ _,_,0,.aW,[],hp,rfl,rfl,rfl,by omega,by omega,.inl ⟨by simp,rfl,rfl⟩,hN⟩
 clear hN;rintro m r h' ⟨j,ov,oh,hp,rfl,rfl,rfl,Uv,fP,ho,hN⟩;have gx:(((bu g 0).take j).map gA).length=j:=by rw [List.length_map,List.length_take];omega
 (conv=>whnf);refine ⟨fun hz=>?_,fun hz=>?_⟩<;>simp at hz
 ·have nd:=Ur g hg tb (dJ g) ks nq nv dX BB j (by omega) hp hN;have pm:∀ hp:ab,((tb,fU g (dJ g) nv)::hp++oh).Perm ((tb,fU g (dJ g) nv)::(oh++hp)):=fun hp=>List.Perm.cons _ List.perm_append_comm
  have BI:=ay.re (R':=fun v H'=>v=uI g j/\∃ aZ,eS g 0 ks aZ/\H'=(tb,fU g (dJ g) nv)::(oh++aZ)) nd (pm hp) (by
   rintro v h1 ⟨rfl,aZ,jj,rfl⟩;exact ⟨_,pm aZ,rfl,aZ,jj,rfl⟩)
  (conv=>whnf);skip;refine ay.mono ?_ BI;clear hN nd BI;rintro v h1 ⟨rfl,hp,hN,rfl⟩;cases lG:(bu g 0)[j]? with
  | none=>
    have mY:uI g j=.aQ [.agg [.aW,.int .i64 0],.bool false]:=by unfold uI;rw [lG]
    have uG:(bu g 0).take j=(bu g 0).take most.toNat:=by rw [List.getElem?_eq_none_iff] at lG;rw [List.take_of_length_le lG,List.take_of_length_le (by omega)]
    rw [mY];(conv=>whnf);repeat ((first|refine ⟨_,_,aK.here _,⟨Nat.le_of_ble_eq_true rfl,rfl⟩,?_⟩|intro (nb:Nat));conv=>whnf)
    refine cT rfl ?_;rw [uG] at ho gx;by_cases bF:bu g 0=[]
    ·rcases ho with ⟨hn,rfl,rfl⟩|⟨q,rfl,rfl⟩
     all_goals
      (conv=>whnf);skip;refine cT (by simp [bF]) ?_;(conv=>whnf);skip;rw [ep,jG,if_pos bF,if_neg (by decide)];exact ag.aQ (.cons (ag.nil (by decide)) (.cons (ag.refl _) .nil))
    have eF:0<(((bu g 0).take most.toNat).map gA).length:=by rw [List.length_map,List.length_take];have:=List.length_pos_iff.2 bF;omega
    rcases ho with ⟨hn,rfl,rfl⟩|⟨q,rfl,rfl⟩
    ·rw [hn] at eF;simp at eF
    (conv=>whnf);skip;refine cF (decide_eq_false (by rw [List.length_map];omega)) ?_;(conv=>whnf);skip;rw [ep,jG,if_neg bF,if_pos rfl];exact ag.aQ (.cons ag.sl (.cons (ag.refl _) .nil))
  | some p=>
    have mY:uI g j=.aQ [.agg (om (gA p)),.bool true]:=by unfold uI;rw [lG]
    have Uw:=(List.getElem?_eq_some_iff.1 lG).1;have rY:((bu g 0).take (j+1)).map gA=((bu g 0).take j).map gA++[gA p]:=by rw [dg lG,List.map_append];rfl
    have jb:((((bu g 0).take j).map gA).map om).length=j:=by rw [List.length_map];exact gx
    rw [mY];rcases ho with ⟨hn,rfl,rfl⟩|⟨q,rfl,rfl⟩
    ·(conv=>whnf);repeat ((first|refine ⟨_,_,aK.here _,⟨Nat.le_of_ble_eq_true rfl,rfl⟩,?_⟩|intro (nb:Nat));conv=>whnf)
     refine cF rfl ?_;(conv=>whnf);repeat ((first|refine ⟨af ⟨by omega,by omega⟩,?_⟩|(refine ⟨Nat.le_of_ble_eq_true rfl,fun q=>?_⟩));conv=>whnf)
     exact ⟨_,_,ar.perm (List.Perm.swap _ _ _),_,(by omega),j+1,_,[(q,.tok)],hp,rfl,rfl,rfl,by omega,by omega,.inr ⟨q,by rw [rY,hn];rfl,rfl⟩,hN⟩
    (conv=>whnf);repeat ((first|refine ⟨_,_,aK.here _,⟨Nat.le_of_ble_eq_true rfl,rfl⟩,?_⟩|intro (nb:Nat));conv=>whnf)
    refine cF rfl ?_;(conv=>whnf);repeat ((first|refine ⟨af ⟨by omega,by omega⟩,?_⟩|(refine ⟨(by rw [List.length_append,jb];simp;unfold aV;omega),fun q2=>⟨_,.there (.here _),?_⟩⟩));conv=>whnf)
    exact ⟨_,_,ar.refl _ _,_,(by omega),j+1,_,[(q2,.tok)],hp,rfl,rfl,rfl,by omega,by omega,.inr ⟨q2,by rw [rY,List.map_append];rfl,rfl⟩,hN⟩
 have uG:(bu g 0).take j=(bu g 0).take most.toNat:=(by rw [show j=most.toNat by omega]);rw [uG] at ho gx;by_cases bF:bu g 0=[]
 ·rcases ho with ⟨hn,rfl,rfl⟩|⟨q,rfl,rfl⟩
  all_goals
   (conv=>whnf);skip;refine cT (by simp [bF]) ?_;(conv=>whnf);skip;rw [ep,jG,if_pos bF,if_neg (by decide)];exact ag.aQ (.cons (ag.nil (by decide)) (.cons (ag.refl _) .nil))
 have eF:0<(((bu g 0).take most.toNat).map gA).length:=by rw [List.length_map,List.length_take];have:=List.length_pos_iff.2 bF;omega
 rcases ho with ⟨hn,rfl,rfl⟩|⟨q,rfl,rfl⟩
 ·rw [hn] at eF;simp at eF
 (conv=>whnf);skip;refine cF (decide_eq_false (by rw [List.length_map];omega)) ?_;(conv=>whnf);skip;rw [ep,jG,if_neg bF,if_pos rfl];exact ag.aQ (.cons ag.sl (.cons (ag.refl _) .nil))
end Go.Abs.Wall.Lst
namespace Go.Abs.Wall.Lst
open Go Go.Abs Go.Proofs Go.Abs.Wall
def cp (p:List az):Int:=(p.map (·.cost)).sum
def xS:List az->List AV
 | []=>[.int .i64 0,.int .i64 0,.aW,.aW,.jV]
 | x::r=>du x.word++[.au (.int .i64 (cp r)::xS r)]
def pY (p:List az):List AV:=.int .i64 (cp p)::xS p
def db (p:List az):List AV:=[.au (pY p)]
def fV (l:List (List az)):List AV:=[.sl 1 none (l.map db)]
theorem iw (l:List (List az)):(fV l).length=1:=rfl
def cA (ls:List (List (List az))):List (List Int):=ls.map fun l=>l.map cp
def fE (ls:List (List (List az))) (w:Wy):List az:=(ls.getD w.aP []).getD w.aO []
def eI (ls:List (List (List az))) (rs:Nat->Nat):List (List (List az)):=ls.mapIdx fun k l=>l.drop (rs k)
theorem pg (ls:List (List (List az))) (rs:Nat->Nat):(eI ls rs).length=ls.length:=by simp [eI]
theorem qV {ls:List (List (List az))} {rs:Nat->Nat} {k:Nat} {l:List (List az)} (h:ls[k]?=some l):(eI ls rs)[k]?=some (l.drop (rs k)):=by unfold eI;rw [List.getElem?_mapIdx,h];rfl
theorem xT {ls:List (List (List az))} {rs:Nat->Nat} {k:Nat} {l:List (List az)} (h:ls[k]?=some l):(eI ls rs).set k ((l.drop (rs k)).drop 1)=eI ls (up rs k):=by
 refine List.ext_getElem? fun j=>?_;by_cases hj:j=k
 ·subst hj;rw [List.getElem?_set_self (by rw [pg];exact (List.getElem?_eq_some_iff.1 h).1),qV h,List.drop_drop];unfold up;rw [if_pos rfl,Nat.add_comm]
 rw [List.getElem?_set_ne (Ne.symm hj)];unfold eI;rw [List.getElem?_mapIdx,List.getElem?_mapIdx];unfold up;rw [if_neg hj]
theorem BJ (ls:List (List (List az))):eI ls nm=ls:=by unfold eI nm;refine List.ext_getElem? fun j=>?_;rw [List.getElem?_mapIdx];cases ls[j]?<;>rfl
def eJ (cur:List (List (List az))) (i:Nat) (b:Int):Prop:=
 (b = -1/\∀ j l,j<i->cur[j]?=some l->l=[]) \/
 ∃ (k:Nat) (p:List az) (r:List (List az)),b=(k:Int)/\k<i/\cur[k]?=some (p::r)/\∀ (j:Nat) q s,j<i->cur[j]?=some (q::s)->cp p<cp q\/(cp p=cp q/\k<=j)
theorem eJ.lt {cur:List (List (List az))} {i:Nat} {b:Int} {n:Nat} (h:eJ cur i b) (hi:i<=n):-1<=b/\b<n:=by rcases h with ⟨rfl,_⟩|⟨k,p,r,rfl,hk,_⟩<;>omega
theorem eJ.full {cur:List (List (List az))} {i:Nat} {b:Int} {lb:List (List az)} (h:eJ cur i b) (hb:0<=b) (dC:cur[b.toNat]?=some lb):0<lb.length:=by
 rcases h with ⟨rfl,_⟩|⟨k,p,r,rfl,hk,hc,_⟩
 ·omega
 rw [Int.toNat_natCast,hc] at dC;cases dC
 simp
theorem eJ.step {cur:List (List (List az))} {i:Nat} {b:Int} {li lb:List (List az)} (h:eJ cur i b) (dK:cur[i]?=some li) (dC:cur[b.toNat]?=some lb) :
  (0<li.length->(b<0\/cp (li.getD 0 [])<cp (lb.getD 0 []))->eJ cur (i+1) i)/\(¬ (0<li.length/\(b<0\/cp (li.getD 0 [])<cp (lb.getD 0 [])))->eJ cur (i+1) b):=by
 have xU:∀ (j:Nat),j<i+1->j<i\/j=i:=fun j hj=>by omega
 constructor
 ·intro h1 h2;cases li with
  | nil=>simp at h1
  | cons p r=>
    refine .inr ⟨i,p,r,rfl,by omega,dK,fun j q s hj hq=>?_⟩;rcases xU j hj with hj|rfl
    ·left;rcases h with ⟨rfl,he⟩|⟨k,p',r',rfl,hk,hc,hm⟩
     ·have:=he j _ hj hq;cases this
     rw [Int.toNat_natCast,hc] at dC;cases dC
     have h3:cp p<cp p':=by
      rcases h2 with h2|h2
      ·omega
      simpa using h2
     rcases hm j q s hj hq with e|⟨e,_⟩<;>omega
    rw [dK] at hq;cases hq
    exact .inr ⟨rfl,Nat.le_refl _⟩
 intro hn;rcases h with ⟨rfl,he⟩|⟨k,p,r,rfl,hk,hc,hm⟩
 ·refine .inl ⟨rfl,fun j l hj hl=>?_⟩;rcases xU j hj with hj|rfl
  ·exact he j l hj hl
  rw [dK] at hl;cases hl
  refine Classical.byContradiction fun aI=>hn ⟨List.length_pos_iff.2 aI,.inl (by omega)⟩
 refine .inr ⟨k,p,r,rfl,by omega,hc,fun j q s hj hq=>?_⟩;rcases xU j hj with hj|rfl
 ·exact hm j q s hj hq
 rw [dK] at hq;cases hq
 rw [Int.toNat_natCast,hc] at dC;cases dC
 have:¬ cp q<cp p:=fun e=>hn ⟨by simp,.inr (by simpa using e)⟩;by_cases e:cp p<cp q
 ·exact .inl e
 exact .inr ⟨by omega,by omega⟩
theorem eJ.end {ls:List (List (List az))} {rs:Nat->Nat} {b:Int} (h:eJ (eI ls rs) ls.length b) :
  (b = -1/\gK (cA ls) rs=none)\/∃ (k:Nat) (p:List az) (r:List (List az)) (l:List (List az)),b=(k:Int)/\ls[k]?=some l/\(eI ls rs)[k]?=some (p::r)/\l.drop (rs k)=p::r/\gK (cA ls) rs=some ⟨cp p,k,rs k⟩:=by
 have uD:∀ x,ik (cA ls) rs x->∃ q s,(eI ls rs)[x.aP]?=some (q::s)/\cp q=x.cost:=by
  rintro x ⟨h1,l,h2,h3⟩;unfold cA at h2;rw [List.getElem?_map] at h2;cases hl:ls[x.aP]? with
  | none=>rw [hl] at h2;cases h2
  | some l0=>
    rw [hl] at h2;cases h2
    rw [List.getElem?_map,h1] at h3;cases hq:l0[rs x.aP]? with
    | none=>rw [hq] at h3;cases h3
    | some q=>
      rw [hq] at h3;refine ⟨q,l0.drop (rs x.aP+1),?_,by simpa using h3⟩;rw [qV hl,drop_cons hq]
 rcases h with ⟨rfl,he⟩|⟨k,p,r,rfl,hk,hc,hm⟩
 ·left;refine ⟨rfl,Hi fun x hx=>?_⟩;obtain ⟨q,s,h1,_⟩:=uD x hx;have aL:=(List.getElem?_eq_some_iff.1 h1).1;rw [pg] at aL;have:=he x.aP _ aL h1;cases this
 right;obtain ⟨l,hl⟩:=aN (l:=ls) hk;have hd:l.drop (rs k)=p::r:=by have:=qV (rs:=rs) hl;rw [hc] at this;exact (Option.some.inj this).symm
 have hp:l[rs k]?=some p:=by have:=congrArg (fun z=>z[0]?) hd;simpa [List.getElem?_drop] using this
 refine ⟨k,p,r,l,rfl,hl,hc,hd,Hh ⟨rfl,l.map cp,?_,?_⟩ fun y hy=>?_⟩
 ·unfold cA;rw [List.getElem?_map,hl];rfl
 ·show (l.map cp)[rs k]?=some (cp p);rw [List.getElem?_map,hp];rfl
 obtain ⟨q,s,h1,h2⟩:=uD y hy;have aL:=(List.getElem?_eq_some_iff.1 h1).1;rw [pg] at aL;rcases hm y.aP q s aL h1 with e|⟨e1,e2⟩
 ·exact .inr (.inl (by show cp p<y.cost;omega))
 by_cases e3:y.aP=k
 ·left;refine ik.eq hy ⟨rfl,l.map cp,?_,?_⟩ e3
  ·unfold cA;rw [List.getElem?_map,hl];rfl
  show (l.map cp)[rs k]?=some (cp p);rw [List.getElem?_map,hp];rfl
 exact .inr (.inr ⟨by show cp p=y.cost;omega,by show k<y.aP;omega⟩)
def eT (ls:List (List (List az))) (most:Nat):List (List az):=((aY (cA ls)).take most).map (fE ls)
def c161:aw:=⟨[0,1,4,5,6,7,11,15,48,51],[],[],[],[(7,[0,1,2,3,4,5,6,7,8,9,10,11,12,13,14,15,16,17,18,19,20,21,22,23,24,25,26,27,28,29,30],[])],[]⟩
theorem El (ls:List (List (List az))) (aI:0<ls.length) (hl:ls.length<=65536) (lH:∀ l∈ls,l.length<=65536) (most:Nat) (hm:most<=64) (b:Nat) :
  ay Tryz.prog 161 [.aR b 0 ls.length 1,.int .i64 most] [(b,.vec (ls.map fV).flatten)] (fun v h'=>v=.sl 1 none ((eT ls most).map db)/\h'=[]):=by
 refine ay.post (R:=fun v h'=>ag v (.sl 1 none ((eT ls most).map db))) ?_ ?_
 ·refine aG (F:=Tryz.f161) c161 rfl rfl rfl mixed rfl fun X=>?_;(conv=>whnf);skip;refine cy rfl mixed [0,1,5] [] (fun m r h=>∃ (t:Nat) (ov:AV) (oh:ab),r=[(0,[],.aR b 0 ls.length 1),(1,[],.int .i64 most),(5,[],ov)]/\h=(b,.vec ((eI ls (cX (cA ls) t)).map fV).flatten)::oh/\m=65 - t/\t<=most/\t<=(aY (cA ls)).length/\Out 1 db (((aY (cA ls)).take t).map (fE ls)) ov oh) ?_ ?_
  ·(conv=>whnf);exact ⟨_,_,ar.refl _ _,_,0,.aW,[],rfl,by rw [show cX (cA ls) 0=nm from rfl,BJ],rfl,by omega,by omega,.inl ⟨by simp,rfl,rfl⟩⟩
  rintro m r h' ⟨t,ov,oh,rfl,rfl,rfl,xt,gx,ho⟩;have bD:=ho;have mE:(((aY (cA ls)).take t).map (fE ls)).length=t:=by rw [List.length_map,List.length_take];omega
  obtain ⟨cur,jl⟩:∃ cur,cur=eI ls (cX (cA ls) t):=⟨_,rfl⟩;have bw:cur.length=ls.length:=by rw [jl,pg]
  have pZ:∀ (k:Nat) l,cur[k]?=some l->l.length<=65536:=by
   intro k l hk;rw [jl] at hk;have aL:=(List.getElem?_eq_some_iff.1 hk).1;rw [pg] at aL;obtain ⟨l0,ep⟩:=aN (l:=ls) aL;rw [qV ep] at hk;cases hk
   have:=lH l0 (List.mem_of_getElem? ep);rw [List.length_drop];omega
  rw [<- jl];have jb:((((aY (cA ls)).take t).map (fE ls)).map db).length=t:=by rw [List.length_map];exact mE
  rcases ho with ⟨ph,rfl,rfl⟩|⟨q,rfl,rfl⟩
  ·have HE:t=0:=by rw [ph] at mE;exact mE.symm
   skip;(conv=>whnf);skip;refine ⟨fun hz=>?_,fun hz=>?_⟩<;>simp at hz
   ·have HL:t<most:=(by omega);refine cy rfl mixed [0,1,5,6,7] [] (fun m r h=>∃ (i:Nat) (bi:Int),r=[(0,[],.aR b 0 ls.length 1),(1,[],.int .i64 most),(5,[],.aW),(6,[],.int .i64 bi),(7,[],.int .i64 i)]/\h=(b,.vec (cur.map fV).flatten)::[]/\m=ls.length - i/\i<=ls.length/\eJ cur i bi) ?_ ?_
    ·(conv=>whnf);exact ⟨_,_,ar.refl _ _,_,0,-1,rfl,rfl,rfl,by omega,.inl ⟨rfl,fun j l hj=>by omega⟩⟩
    rintro m r h' ⟨i,bi,rfl,rfl,rfl,hi,hb⟩;(conv=>whnf);refine ⟨fun eX=>?_,fun eX=>?_⟩<;>simp at eX
    ·obtain ⟨li,dK⟩:=aN (l:=cur) (i:=i) (by omega);have HM:=pZ i li dK;have vY:-1<=bi/\bi<ls.length:=hb.lt (by omega);obtain ⟨lb,dC⟩:=aN (l:=cur) (i:=bi.toNat) (by omega);have HO:=pZ _ lb dC;(conv=>whnf);repeat ((first|(refine iK (i:=i) (by omega) ?_)|(refine ft iw (.head _) (by omega) dK ?_)|(refine qQ (enc:=db) [] ?_ ?_;(focus (conv=>whnf;skip));(focus (intro h1 h2;simp only [decide_eq_true_eq,decide_eq_false_iff_not,List.length_map] at h1 h2;first|(show 0<=(0:Int)/\(0:Int)<(li.length:Int);omega)|(show 0<=(0:Int)/\(0:Int)<(lb.length:Int);have:=hb.full (by omega) dC;omega))))|(refine xI ?_ ?_;(focus (conv=>whnf;skip));(focus (intro h1 h2;simp only [decide_eq_true_eq,decide_eq_false_iff_not,List.length_map] at h1 h2;show 0<=bi/\bi<ls.length;omega)))|(refine ft iw (.head _) (by omega) dC ?_)|refine And.intro (by show aJ (aH Tryz.f161 _) _=true;decide +kernel) ?_);conv=>whnf)
     refine ⟨fun bF=>?_,fun bF=>?_⟩
     ·(conv=>whnf);repeat (refine ⟨af ⟨by omega,by omega⟩,?_⟩;conv=>whnf)
      (conv=>whnf);skip;exact ⟨_,_,ar.refl _ _,_,(by omega),i+1,i,rfl,rfl,rfl,by omega,(hb.step dK dC).1 (by simp at bF;omega) (by simp at bF;simpa using bF.2)⟩
     (conv=>whnf);repeat (refine ⟨af ⟨by omega,by omega⟩,?_⟩;conv=>whnf)
     (conv=>whnf);skip;exact ⟨_,_,ar.refl _ _,_,(by omega),i+1,bi,rfl,rfl,rfl,by omega,(hb.step dK dC).2 (by rintro ⟨e1,e2⟩;simp at bF;simp at e2;have:=bF e1;omega)⟩
    obtain rfl:i=ls.length:=by omega
    rw [jl] at hb;rcases hb.end with ⟨rfl,mB⟩|⟨k,pp,rr,l,rfl,dz,fO,mf,im⟩
    ·have ot:(aY (cA ls)).take t=(aY (cA ls)).take most:=by
      have hle:(aY (cA ls)).length<=t:=by
       rcases Nat.lt_or_ge t (aY (cA ls)).length with e|e
       ·obtain ⟨x,hx⟩:=aN e;rw [mc,mB] at hx;cases hx
       exact e
      rw [List.take_of_length_le hle,List.take_of_length_le (by omega)]
     (conv=>whnf);skip;refine ⟨fun bF=>?_,fun bF=>?_⟩<;>simp at bF
     have gH:eT ls most=((aY (cA ls)).take t).map (fE ls):=by unfold eT;rw [ot]
     (conv=>whnf);skip;rw [gH];exact bD.le (by decide)
    have lI:=im;rw [<- mc] at lI;have xV:k<ls.length:=(List.getElem?_eq_some_iff.1 dz).1;rw [<- jl] at fO;have dX:=pZ k _ fO;(conv=>whnf);skip;refine ⟨fun bF=>absurd (of_decide_eq_true bF) (by omega),fun bF=>?_⟩;(conv=>whnf);repeat ((first|(refine iK (i:=k) (by omega) ?_)|(refine ft iw (.head _) (by omega) fO ?_)|(refine ix (enc:=db) (i:=0) rfl ?_));conv=>whnf)
    have ch:((aY (cA ls)).take (t+1)).map (fE ls)=((aY (cA ls)).take t).map (fE ls)++[pp]:=by rw [dg lI,List.map_append];refine congrArg (_++[·]) ?_;show (ls.getD k []).getD (cX (cA ls) t k) []=pp;rw [show ls.getD k []=l by rw [List.getD_eq_getElem?_getD,dz];rfl,List.getD_eq_getElem?_getD];have:=congrArg (fun z=>z[0]?) mf;simp only [List.getElem?_drop,Nat.add_zero,List.getElem?_cons_zero] at this;rw [this];rfl
    have pj:cur.set k rr=eI ls (cX (cA ls) (t+1)):=by rw [tu lI,jl,<- xT dz,mf];rfl
    have HP:t<(aY (cA ls)).length:=(List.getElem?_eq_some_iff.1 lI).1;refine ⟨Nat.le_of_ble_eq_true rfl,fun q2=>?_⟩;(conv=>whnf);repeat ((first|(refine iK (i:=k) (by omega) ?_)|(refine ft iw (by first|exact .head _|exact .tail _ (.head _)) (by omega) fO ?_)|(refine ⟨af ⟨by decide,by rw [List.length_map,List.length_cons];omega,Int.le_refl _⟩,?_⟩));conv=>whnf)
    (conv=>whnf);have uJ:List.drop (Int.toNat 1) (List.take ((((pp::rr).map db).length:Int)).toNat ((pp::rr).map db))=rr.map db:=by rw [Int.toNat_natCast,List.take_length];rfl
    refine rM (enc:=fV) (L:=cur) rr (by decide) iw (by rw [bw];exact xV) (by omega) (by unfold fV;rw [<- uJ];rfl) (by first|exact .here _|exact .there (.here _)) ?_;(conv=>whnf);skip;exact ⟨_,_,ar.perm (List.Perm.swap _ _ _),_,(by omega),t+1,_,[(q2,.tok)],rfl,(by rw [pj]),rfl,by omega,by omega,.inr ⟨q2,(by rw [ch,ph];rfl),rfl⟩⟩
   have ot:(aY (cA ls)).take t=(aY (cA ls)).take most:=(by rw [show t=most by omega]);have gH:eT ls most=((aY (cA ls)).take t).map (fE ls):=by unfold eT;rw [ot]
   (conv=>whnf);skip;rw [gH];exact bD.le (by decide)
  skip;skip;(conv=>whnf);skip;refine ⟨fun hz=>?_,fun hz=>?_⟩<;>simp at hz
  ·have HL:t<most:=(by omega);refine cy rfl mixed [0,1,5,6,7] [] (fun m r h=>∃ (i:Nat) (bi:Int),r=[(0,[],.aR b 0 ls.length 1),(1,[],.int .i64 most),(5,[],.sl 1 (some q) ((((aY (cA ls)).take t).map (fE ls)).map db)),(6,[],.int .i64 bi),(7,[],.int .i64 i)]/\h=(b,.vec (cur.map fV).flatten)::[(q,.tok)]/\m=ls.length - i/\i<=ls.length/\eJ cur i bi) ?_ ?_
   ·(conv=>whnf);exact ⟨_,_,ar.refl _ _,_,0,-1,rfl,rfl,rfl,by omega,.inl ⟨rfl,fun j l hj=>by omega⟩⟩
   rintro m r h' ⟨i,bi,rfl,rfl,rfl,hi,hb⟩;(conv=>whnf);refine ⟨fun eX=>?_,fun eX=>?_⟩<;>simp at eX
   ·obtain ⟨li,dK⟩:=aN (l:=cur) (i:=i) (by omega);have HM:=pZ i li dK;have vY:-1<=bi/\bi<ls.length:=hb.lt (by omega);obtain ⟨lb,dC⟩:=aN (l:=cur) (i:=bi.toNat) (by omega);have HO:=pZ _ lb dC;(conv=>whnf);repeat ((first|(refine iK (i:=i) (by omega) ?_)|(refine ft iw (.head _) (by omega) dK ?_)|(refine qQ (enc:=db) [] ?_ ?_;(focus (conv=>whnf;skip));(focus (intro h1 h2;simp only [decide_eq_true_eq,decide_eq_false_iff_not,List.length_map] at h1 h2;first|(show 0<=(0:Int)/\(0:Int)<(li.length:Int);omega)|(show 0<=(0:Int)/\(0:Int)<(lb.length:Int);have:=hb.full (by omega) dC;omega))))|(refine xI ?_ ?_;(focus (conv=>whnf;skip));(focus (intro h1 h2;simp only [decide_eq_true_eq,decide_eq_false_iff_not,List.length_map] at h1 h2;show 0<=bi/\bi<ls.length;omega)))|(refine ft iw (.head _) (by omega) dC ?_)|refine And.intro (by show aJ (aH Tryz.f161 _) _=true;decide +kernel) ?_);conv=>whnf)
    refine ⟨fun bF=>?_,fun bF=>?_⟩
    ·(conv=>whnf);repeat (refine ⟨af ⟨by omega,by omega⟩,?_⟩;conv=>whnf)
     (conv=>whnf);skip;exact ⟨_,_,ar.refl _ _,_,(by omega),i+1,i,rfl,rfl,rfl,by omega,(hb.step dK dC).1 (by simp at bF;omega) (by simp at bF;simpa using bF.2)⟩
    (conv=>whnf);repeat (refine ⟨af ⟨by omega,by omega⟩,?_⟩;conv=>whnf)
    (conv=>whnf);skip;exact ⟨_,_,ar.refl _ _,_,(by omega),i+1,bi,rfl,rfl,rfl,by omega,(hb.step dK dC).2 (by rintro ⟨e1,e2⟩;simp at bF;simp at e2;have:=bF e1;omega)⟩
   obtain rfl:i=ls.length:=by omega
   rw [jl] at hb;rcases hb.end with ⟨rfl,mB⟩|⟨k,pp,rr,l,rfl,dz,fO,mf,im⟩
   ·have ot:(aY (cA ls)).take t=(aY (cA ls)).take most:=by
     have hle:(aY (cA ls)).length<=t:=by
      rcases Nat.lt_or_ge t (aY (cA ls)).length with e|e
      ·obtain ⟨x,hx⟩:=aN e;rw [mc,mB] at hx;cases hx
      exact e
     rw [List.take_of_length_le hle,List.take_of_length_le (by omega)]
    (conv=>whnf);skip;refine ⟨fun bF=>?_,fun bF=>?_⟩<;>simp at bF
    have gH:eT ls most=((aY (cA ls)).take t).map (fE ls):=by unfold eT;rw [ot]
    (conv=>whnf);skip;rw [gH];exact bD.le (by decide)
   have lI:=im;rw [<- mc] at lI;have xV:k<ls.length:=(List.getElem?_eq_some_iff.1 dz).1;rw [<- jl] at fO;have dX:=pZ k _ fO;(conv=>whnf);skip;refine ⟨fun bF=>absurd (of_decide_eq_true bF) (by omega),fun bF=>?_⟩;(conv=>whnf);repeat ((first|(refine iK (i:=k) (by omega) ?_)|(refine ft iw (.head _) (by omega) fO ?_)|(refine ix (enc:=db) (i:=0) rfl ?_));conv=>whnf)
   have ch:((aY (cA ls)).take (t+1)).map (fE ls)=((aY (cA ls)).take t).map (fE ls)++[pp]:=by rw [dg lI,List.map_append];refine congrArg (_++[·]) ?_;show (ls.getD k []).getD (cX (cA ls) t k) []=pp;rw [show ls.getD k []=l by rw [List.getD_eq_getElem?_getD,dz];rfl,List.getD_eq_getElem?_getD];have:=congrArg (fun z=>z[0]?) mf;simp only [List.getElem?_drop,Nat.add_zero,List.getElem?_cons_zero] at this;rw [this];rfl
   have pj:cur.set k rr=eI ls (cX (cA ls) (t+1)):=by rw [tu lI,jl,<- xT dz,mf];rfl
   have HP:t<(aY (cA ls)).length:=(List.getElem?_eq_some_iff.1 lI).1;refine ⟨(by rw [List.length_append,jb];simp;unfold aV;omega),fun q2=>⟨_,.there (.here _),?_⟩⟩;(conv=>whnf);repeat ((first|(refine iK (i:=k) (by omega) ?_)|(refine ft iw (by first|exact .head _|exact .tail _ (.head _)) (by omega) fO ?_)|(refine ⟨af ⟨by decide,by rw [List.length_map,List.length_cons];omega,Int.le_refl _⟩,?_⟩));conv=>whnf)
   (conv=>whnf);have uJ:List.drop (Int.toNat 1) (List.take ((((pp::rr).map db).length:Int)).toNat ((pp::rr).map db))=rr.map db:=by rw [Int.toNat_natCast,List.take_length];rfl
   refine rM (enc:=fV) (L:=cur) rr (by decide) iw (by rw [bw];exact xV) (by omega) (by unfold fV;rw [<- uJ];rfl) (by first|exact .here _|exact .there (.here _)) ?_;(conv=>whnf);skip;exact ⟨_,_,ar.refl _ _,_,(by omega),t+1,_,[(q2,.tok)],rfl,(by rw [pj]),rfl,by omega,by omega,.inr ⟨q2,(by rw [ch,List.map_append];rfl),rfl⟩⟩
  have ot:(aY (cA ls)).take t=(aY (cA ls)).take most:=(by rw [show t=most by omega]);have gH:eT ls most=((aY (cA ls)).take t).map (fE ls):=by unfold eT;rw [ot]
  (conv=>whnf);skip;rw [gH];exact bD.le (by decide)
 intro v h1 hv;exact ⟨.sl 1 none ((eT ls most).map db),[],⟨rfl,rfl⟩,hv,fun k o hm=>(by cases hm),fun _=>(by simp [keys])⟩
end Go.Abs.Wall.Lst
