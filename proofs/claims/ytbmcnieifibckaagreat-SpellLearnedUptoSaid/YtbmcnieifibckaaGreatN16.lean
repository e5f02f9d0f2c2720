/- What is proved: small laws for the walks of this seat, and contracts of its functions. No condition but those each theorem names. -/
import Derived.Test.YtbmcnieifibckaaGreatN15
set_option maxRecDepth 100000
set_option maxHeartbeats 2000000
set_option linter.unusedVariables false
set_option linter.unusedSimpArgs false
namespace Go.Abs.Wall.Lst
open Go Go.Abs Go.Proofs Go.Abs.Wall
def gF (p:lQ):sT:=⟨p.2.map (·.word),p.1⟩
theorem vr {g:List (List av)} (hg:fX g) {i ρ:Nat} (hi:i<g.length) {w:Wy} {p:lQ} (hw:(du g i)[ρ]?=some w) (hp:(bk g i)[ρ]?=some p) :
  ∃ es x w' p',g[i]?=some es/\es[w.aO]?=some x/\FC g.length i x/\(du g x.to.toNat)[w.aM]?=some w'/\(bk g x.to.toNat)[w.aM]?=some p'/\p=(w.cost,x::p'.2):=by
 obtain ⟨es,bc⟩:=aL hi;have hE:=hg.aO i es bc;rw [vl bc hE,List.getElem?_map] at hp;unfold du at hw;rw [bc] at hw;simp only at hw;rw [hw] at hp;have hp:lf es (fun x=>bk g x.to.toNat) w=p:=(by simpa using hp);obtain ⟨_,l,h2,h3⟩:=jR hw;have aI:=(List.getElem?_eq_some_iff.1 h2).1;rw [Cz] at aI;obtain ⟨x,hx⟩:=aL aI;have ho:=hE x (List.mem_of_getElem? hx);obtain ⟨l',e1,e2⟩:=yF hg bc hx;rw [h2] at e1;cases e1
 rw [e2] at h3;cases hq:(du g x.to.toNat)[w.aM]? with
 | none=>rw [hq] at h3;cases h3
 | some w'=>
   have:=yE hg (i:=x.to.toNat) (by have:=ho.hi;omega) w.aM;rw [hq] at this;cases hr:(bk g x.to.toNat)[w.aM]? with
   | none=>rw [hr] at this;cases this
   | some p'=>
     refine ⟨es,x,w',p',bc,hx,ho,hq,hr,?_⟩;rw [<- hp];unfold lf;rw [hx];simp only;rw [List.getD_eq_getElem?_getD,hr];rfl
theorem ON {g:List (List av)} {ρ:Nat} {w:Wy} {p:lQ} (hw:(du g g.length)[ρ]?=some w) (hp:(bk g g.length)[ρ]?=some p):p.2=[]/\ρ=0:=by
 rw [wN] at hp;cases ρ with
 | zero=>simp at hp;subst hp;exact ⟨rfl,rfl⟩
 | succ n=>simp at hp
theorem OO {g:List (List av)} {i ρ:Nat} {w:Wy} (hw:(du g i)[ρ]?=some w):w.aM<=ρ:=by
 unfold du at hw;split at hw
 ·cases ρ with
  | zero=>simp at hw;subst hw;exact Nat.le_refl _
  | succ n=>simp at hw
 exact Cs hw
def c148:az:=⟨[0,1,4,5,6,7,8,17,31],[],[8],[],[(7,[0,1,2,3,4,5,6,7,8,9,10,11,12,13,14,15],[8]),(8,[0,1,2,3,4,5,6,7,8],[])],[]⟩
def vu (g:List (List av)) (aM:Nat):AV:=match (bk g 0)[aM]? with
 | none=>.aH [.agg [.aT,.int .i64 0],.bool false]
 | some p=>.aH [.agg (kI (gF p)),.bool true]
theorem Wd (g:List (List av)) (hg:fX g) (tb:Nat) (R:List Int) (ks:List Nat) (nq:Option Nat) (nv:AV) (dW:ks.length=g.length) (CC:g=[]\/nv=.sl 1 nq (ks.map mU)) (aM:Nat) (hr:aM<=64) (hp:af) (hN:fl g 0 ks hp) :
  aB Tryz.prog 148 [.bj tb 0,.int .i64 aM] ((tb,gp g R nv)::hp) (fun v h'=>v=vu g aM/\∃ aY,fl g 0 ks aY/\h'=(tb,gp g R nv)::aY):=by
 have OK:=hg.bB
 have OP:∀ (A B:af) (hp:af) (i r:Nat),i<=g.length->r<=64->fl g 0 ks hp->aB Tryz.prog 216 [.bj tb 0,.int .i64 i,.int .i64 r] (A++(tb,gp g R nv)::(B++hp)) (fun v h'=>v=bY g i r/\∃ aY,fl g 0 ks aY/\h'=A++(tb,gp g R nv)::(B++aY)):=by
  intro A B hp i r hi hr hN;obtain ⟨hA,hB,rfl,nA,nB⟩:=hN.split i (by omega);rw [Nat.zero_add] at nB;have gR:(ks.take i).length=i:=by rw [List.length_take];omega
  have h1:=getAll g hg (g.length - i) i (by omega) tb R (ks.take i) (ks.drop i) nq nv r hB gR (by rw [List.take_append_drop];exact dW) (by rw [List.take_append_drop];exact CC) nB hr
  have pm:∀ hB:af,((tb,gp g R nv)::hB++(A++(B++hA))).Perm (A++(tb,gp g R nv)::(B++(hA++hB))):=fun hB=>
   (List.Perm.cons _ Jn).trans List.perm_middle.symm
  refine aB.re h1 (h2:=A++(B++hA)) (pm hB) ?_;rintro v h3 ⟨rfl,aY,jz,rfl⟩;refine ⟨_,pm aY,rfl,hA++aY,?_,rfl⟩;have:=nA.join (by rw [gR,Nat.zero_add];exact jz);rwa [List.take_append_drop] at this
 refine aB.post (R:=fun v h'=>∃ v',v'=vu g aM/\ag v v'/\∃ aY Z,fl g 0 ks aY/\h'.Perm ((tb,gp g R nv)::aY++Z)) ?_ ?_
 ·refine aG (F:=Tryz.f148) c148 rfl rfl rfl mixed rfl fun X=>?_;(conv=>whnf);intro rb;(conv=>whnf);skip;refine aB.mono ?_ (OP [(rb,.vec [.aT,.int .i64 0])] [] hp 0 aM (by omega) hr hN);clear hN;rintro v h1 ⟨rfl,hp,hN,rfl⟩;cases hw:(du g 0)[aM]? with
  | none=>
    have dH:bY g 0 aM=.aH [.agg (aq sP),.bool false]:=by unfold bY;rw [hw]
    rw [dH];(conv=>whnf);intro wb;(conv=>whnf);repeat (refine ⟨_,_,.here _,aR,?_⟩;conv=>whnf)
    refine cT rfl ?_;(conv=>whnf);repeat ((first|(refine ⟨_,_,.there (.here _),aR,?_⟩)|refine ⟨_,_,.tail _ (.head _),rfl,?_⟩);conv=>whnf)
    have lT:(bk g 0)[aM]?=none:=by
     have:=yE hg (i:=0) (by omega) aM;rw [hw] at this;cases hq:(bk g 0)[aM]? with
     | none=>rfl
     | some p=>rw [hq] at this;cases this
    refine ⟨_,rfl,?_,hp,[(wb,_),(rb,_)],hN,(List.perm_append_comm (l₁:=[_,_]) (l₂:=(tb,gp g R nv)::hp))⟩;unfold vu;rw [lT];exact ag.refl _
  | some w0=>
    have dH:bY g 0 aM=.aH [.agg (aq w0),.bool true]:=by unfold bY;rw [hw]
    obtain ⟨p,lU⟩:∃ p,(bk g 0)[aM]?=some p:=by
     have:=yE hg (i:=0) (by omega) aM;rw [hw] at this;cases hq:(bk g 0)[aM]? with
     | none=>rw [hq] at this;cases this
     | some p=>exact ⟨p,rfl⟩
    have jj:p.1=w0.cost:=by have:=yE hg (i:=0) (by omega) aM;rw [hw,lU] at this;simpa using this
    rw [dH];(conv=>whnf);intro wb;(conv=>whnf);repeat (refine ⟨_,_,.here _,aR,?_⟩;conv=>whnf)
    refine cF rfl ?_;(conv=>whnf);repeat ((first|(refine ⟨_,_,.there (.here _),aR,?_⟩)|refine ⟨_,_,.head _,rfl,?_⟩);conv=>whnf)
    refine bW rfl mixed [0,4,6,7] [] (fun m r h=>∃ (i ρ:Nat) (w:Wy) (pc:lQ) (L:List av) (wv:AV) (wh hp:af) (rb wb:Nat),r=[(0,[],.bj tb 0),(4,[],.bj rb 0),(6,[],.int .i64 i),(7,[],.bj wb 0)]/\h=(wb,.vec (aq w))::(rb,.vec [wv,.int .i64 p.1])::(tb,gp g R nv)::(wh++hp)/\m=g.length - i/\i<=g.length/\(du g i)[ρ]?=some w/\(bk g i)[ρ]?=some pc/\p.2=L++pc.2/\ρ<=64/\Out 4 cr (L.map (·.word)) wv wh/\fl g 0 ks hp/\L.length<=i) ?_ ?_
    ·(conv=>whnf);exact ⟨_,_,ao.refl _ _,_,0,aM,w0,p,[],.aT,[],hp,rb,wb,rfl,by rw [jj];rfl,rfl,by omega,hw,lU,rfl,hr,.inl ⟨rfl,rfl,rfl⟩,hN,Nat.le_refl _⟩
    clear hN;rintro m r h' ⟨i,ρ,w,pc,L,wv,wh,hp,rb,wb,rfl,rfl,rfl,hi,wP,CJ,hL,hρ,ho,hN,We⟩;(conv=>whnf);repeat ((refine ⟨_,_,.tail _ (.tail _ (.head _)),rfl,?_⟩);conv=>whnf)
    refine ⟨fun hz=>?_,fun hz=>?_⟩<;>simp at hz
    ·obtain ⟨es,x,w',p',bc,hx,jA,kZ,aY,hD⟩:=vr hg hz wP CJ;have Jt:=jA.lo;have Ju:=jA.hi;have jX:=jA.fit;have eS:((x.to.toNat:Nat):Int)=x.to:=Int.toNat_of_nonneg (by omega);have mP:=OO wP;have gQ:((L.map (·.word)).map cr).length=L.length:=(by simp);have Jy:=fun A B hp hN=>OP A B hp x.to.toNat w.aM (by omega) (by omega) hN;rw [eS] at Jy;have CK:bY g x.to.toNat w.aM=.aH [.agg (aq w'),.bool true]:=by unfold bY;rw [kZ]
     rcases ho with ⟨ml,rfl,rfl⟩|⟨q,rfl,rfl⟩
     ·(conv=>whnf);repeat ((first|refine ix (by assumption) ?_|(refine ⟨_,_,.tail _ (.tail _ (.head _)),rfl,?_⟩)|refine ba (OQ x.word (by have:=jX.cl;unfold aU;omega) (by have:=jX.us;unfold aU;omega)) ?_|refine ⟨_,_,bo.here _,?_⟩|refine ⟨_,_,.head _,rfl,?_⟩|refine ⟨_,_,.tail _ (.head _),rfl,?_⟩|refine ⟨_,_,.here _,aR,?_⟩|refine And.intro (by show aP (aN Tryz.f148 _) _=true;decide +kernel) ?_|intro (nb:Nat));conv=>whnf)
      refine ⟨Nat.le_of_ble_eq_true rfl,fun q=>?_⟩;(conv=>whnf);repeat ((first|(refine ⟨_,_,.there (.there (.here _)),aR,?_⟩)|refine ⟨_,_,.tail _ (.head _),rfl,?_⟩);conv=>whnf)
      refine aB.mono ?_ (Jy [(q,.tok),(wb,.vec (aq w)),(rb,.vec [.sl 4 (some q) [cr x.word],.int .i64 p.1])] [] hp hN);clear hN;rintro v h1 ⟨rfl,hp,hN,rfl⟩;rw [CK];(conv=>whnf);repeat ((refine ⟨_,_,.there (.here _),aR,?_⟩);conv=>whnf)
      exact ⟨_,_,ao.perm (List.perm_middle (l₁:=[_,_,_])).symm,_,(by omega),x.to.toNat,w.aM,w',p',L++[x],.sl 4 (some q) [cr x.word],[(q,.tok)],hp,rb,wb,by rw [eS],rfl,rfl,by omega,kZ,aY,by rw [hL,hD,List.append_assoc];rfl,by omega,.inr ⟨q,by rw [List.map_append,ml];rfl,rfl⟩,hN,by rw [List.length_append];simp;omega⟩
     (conv=>whnf);repeat ((first|refine ix (by assumption) ?_|(refine ⟨_,_,.tail _ (.tail _ (.head _)),rfl,?_⟩)|refine ba (OQ x.word (by have:=jX.cl;unfold aU;omega) (by have:=jX.us;unfold aU;omega)) ?_|refine ⟨_,_,bo.here _,?_⟩|refine ⟨_,_,.head _,rfl,?_⟩|refine ⟨_,_,.tail _ (.head _),rfl,?_⟩|refine ⟨_,_,.here _,aR,?_⟩|refine And.intro (by show aP (aN Tryz.f148 _) _=true;decide +kernel) ?_|intro (nb:Nat));conv=>whnf)
     refine ⟨(by rw [List.length_append,gQ];simp;unfold aU;omega),fun q2=>⟨_,.there (.there (.there (.here _))),?_⟩⟩;(conv=>whnf);repeat ((first|(refine ⟨_,_,.there (.here _),aR,?_⟩)|refine ⟨_,_,.head _,rfl,?_⟩);conv=>whnf)
     refine aB.mono ?_ (Jy [(wb,.vec (aq w)),(rb,.vec [.sl 4 (some q2) ((L.map (·.word)).map cr++[cr x.word]),.int .i64 p.1])] [(q2,.tok)] hp hN);clear hN;rintro v h1 ⟨rfl,hp,hN,rfl⟩;rw [CK];(conv=>whnf);repeat (refine ⟨_,_,.here _,aR,?_⟩;conv=>whnf)
     exact ⟨_,_,ao.refl _ _,_,(by omega),x.to.toNat,w.aM,w',p',L++[x],.sl 4 (some q2) ((L.map (·.word)).map cr++[cr x.word]),[(q2,.tok)],hp,rb,wb,by rw [eS],rfl,rfl,by omega,kZ,aY,by rw [hL,hD,List.append_assoc];rfl,by omega,.inr ⟨q2,by rw [List.map_append,List.map_append];rfl,rfl⟩,hN,by rw [List.length_append];simp;omega⟩
    have bC:i=g.length:=(by omega);subst bC;obtain ⟨Jz,_⟩:=ON wP CJ;(conv=>whnf);repeat ((first|(refine ⟨_,_,.there (.here _),aR,?_⟩)|refine ⟨_,_,.tail _ (.head _),rfl,?_⟩);conv=>whnf)
    refine ⟨_,rfl,?_,hp,(wb,.vec (aq w))::(rb,.vec [wv,.int .i64 p.1])::wh,hN,?_⟩
    ·unfold vu;rw [lU];show ag _ (.aH [.agg [.sl 4 none ((p.2.map (·.word)).map cr),.int .i64 p.1],.bool true]);rw [hL,Jz,List.append_nil];exact ag.aH (.cons (ag.agg (.cons (ho.le (by decide)) (.cons (ag.refl _) .nil))) (.cons (ag.refl _) .nil))
    exact (List.perm_middle (l₁:=[_,_])).trans (List.Perm.cons _ (List.perm_append_comm (l₁:=_::_::wh) (l₂:=hp)))
 rintro v h1 ⟨v',rfl,hv,aY,Z,jz,eT⟩;refine ⟨_,_,⟨rfl,aY,jz,rfl⟩,hv,fun k o hm=>eT.mem_iff.2 (List.mem_append_left _ hm),fun hn=>?_⟩;have:=((eT.map (fun p:Nat × Ob=>p.1)).nodup_iff).1 hn;unfold keys;rw [List.map_append] at this;exact (List.nodup_append.1 this).1
def fA (g:List (List av)) (most:Nat):List sT:=((bk g 0).take most).map gF
def cC (H:aj) (line:List Int) (most:Int):Int:=if df H line≠0 then df H line else if 1<=most/\most<=64 then (if bk (bX H line) 0=[] then 52 else 0) else 1
def eI (H:aj) (line:List Int) (most:Int):List sT:=if cC H line most=0 then fA (bX H line) most.toNat else []
def c91:az:=⟨[0,1,2,3,6,7,8,9,10,11,12,20,24,27,28,29,38,46],[],[11],[],[],[]⟩
theorem Wf (H:aj) (line:List Int) (most:Int) (hf:dU H) (hl:line.length<=1048576) :
  ae Tryz.prog 91 [.agg (bu H),.sl 1 none (ints line),.int .i64 most] [] (.aH [.sl 2 none ((eI H line most).map kI),.int .i64 (cC H line most)]):=by
 have Wg:=Wh H line hf hl;refine ae.of ?_;refine aG (F:=Tryz.f91) c91 rfl rfl rfl mixed rfl fun X=>?_;(conv=>whnf);repeat (refine ae.k0 (Wg) ?_;conv=>whnf)
 refine ⟨fun h0=>?_,fun h0=>?_⟩<;>simp at h0
 ·have he:cC H line most=df H line:=by unfold cC;rw [if_pos h0]
  (conv=>whnf);skip;unfold eI;rw [he,if_neg h0];exact ag.aH (.cons (ag.nil (by decide)) (.cons (ag.refl _) .nil))
 obtain ⟨hL,wL,hg⟩:=oL h0;obtain ⟨g,iP⟩:∃ g,g=bX H line:=⟨_,rfl⟩;have dH:CL H line=.au (Az g (dQ g)):=(by rw [CL,if_pos h0,iP]);have fm:cC H line most=if 1<=most/\most<=64 then (if bk g 0=[] then 52 else 0) else 1:=by unfold cC;rw [if_neg (by omega),iP]
 have dF:eI H line most=if cC H line most=0 then fA g most.toNat else []:=by unfold eI;rw [iP]
 rw [<- iP] at hg wL;rw [dH,h0];(conv=>whnf);repeat (refine ae.k0 (within _ _ _) ?_;conv=>whnf)
 by_cases hm:1<=most/\most<=64
 rotate_left
 ·refine cT (by simp;omega) ?_;(conv=>whnf);skip;rw [dF,fm,if_neg hm,if_neg (by decide)];exact ag.aH (.cons (ag.nil (by decide)) (.cons (ag.refl _) .nil))
 rw [if_pos hm] at fm;refine cF (by simp;omega) ?_;(conv=>whnf);skip;refine aB.mono ?_ (Jw g hg);rintro v h1 ⟨tb,ks,nq,nv,hp,rfl,dW,CC,hN,rfl⟩;(conv=>whnf);skip;refine bW rfl mixed [6,9,27,28] [] (fun m r h=>∃ (j:Nat) (ov:AV) (oh hp:af),r=[(6,[],ov),(9,[],.bj tb 0),(27,[],.int .i64 most),(28,[],.int .i64 j)]/\h=(tb,gp g (dQ g) nv)::(oh++hp)/\m=65 - j/\(j:Int)<=most/\j<=(bk g 0).length/\Out 2 kI (((bk g 0).take j).map gF) ov oh/\fl g 0 ks hp) ?_ ?_
 ·(conv=>whnf);exact ⟨_,_,ao.refl _ _,_,0,.aT,[],hp,rfl,rfl,rfl,by omega,by omega,.inl ⟨by simp,rfl,rfl⟩,hN⟩
 clear hN;rintro m r h' ⟨j,ov,oh,hp,rfl,rfl,rfl,Wi,gl,ho,hN⟩;have gR:(((bk g 0).take j).map gF).length=j:=by rw [List.length_map,List.length_take];omega
 (conv=>whnf);refine ⟨fun hz=>?_,fun hz=>?_⟩<;>simp at hz
 ·have jr:=Wd g hg tb (dQ g) ks nq nv dW CC j (by omega) hp hN;have pm:∀ hp:af,((tb,gp g (dQ g) nv)::hp++oh).Perm ((tb,gp g (dQ g) nv)::(oh++hp)):=fun hp=>List.Perm.cons _ List.perm_append_comm
  have CM:=aB.re (R':=fun v H'=>v=vu g j/\∃ aY,fl g 0 ks aY/\H'=(tb,gp g (dQ g) nv)::(oh++aY)) jr (pm hp) (by
   rintro v h1 ⟨rfl,aY,jz,rfl⟩;exact ⟨_,pm aY,rfl,aY,jz,rfl⟩)
  (conv=>whnf);skip;refine aB.mono ?_ CM;clear hN jr CM;rintro v h1 ⟨rfl,hp,hN,rfl⟩;cases lU:(bk g 0)[j]? with
  | none=>
    have nG:vu g j=.aH [.agg [.aT,.int .i64 0],.bool false]:=by unfold vu;rw [lU]
    have vq:(bk g 0).take j=(bk g 0).take most.toNat:=by rw [List.getElem?_eq_none_iff] at lU;rw [List.take_of_length_le lU,List.take_of_length_le (by omega)]
    rw [nG];(conv=>whnf);repeat ((first|refine ⟨_,_,bo.here _,⟨Nat.le_of_ble_eq_true rfl,rfl⟩,?_⟩|intro (nb:Nat));conv=>whnf)
    refine cT rfl ?_;rw [vq] at ho gR;by_cases bE:bk g 0=[]
    ·rcases ho with ⟨hn,rfl,rfl⟩|⟨q,rfl,rfl⟩
     all_goals
      (conv=>whnf);skip;refine cT (by simp [bE]) ?_;(conv=>whnf);skip;rw [dF,fm,if_pos bE,if_neg (by decide)];exact ag.aH (.cons (ag.nil (by decide)) (.cons (ag.refl _) .nil))
    have dK:0<(((bk g 0).take most.toNat).map gF).length:=by rw [List.length_map,List.length_take];have:=List.length_pos_iff.2 bE;omega
    rcases ho with ⟨hn,rfl,rfl⟩|⟨q,rfl,rfl⟩
    ·rw [hn] at dK;simp at dK
    (conv=>whnf);skip;refine cF (decide_eq_false (by rw [List.length_map];omega)) ?_;(conv=>whnf);skip;rw [dF,fm,if_neg bE,if_pos rfl];exact ag.aH (.cons ag.sl (.cons (ag.refl _) .nil))
  | some p=>
    have nG:vu g j=.aH [.agg (kI (gF p)),.bool true]:=by unfold vu;rw [lU]
    have Wj:=(List.getElem?_eq_some_iff.1 lU).1;have oP:((bk g 0).take (j+1)).map gF=((bk g 0).take j).map gF++[gF p]:=by rw [dj lU,List.map_append];rfl
    have gQ:((((bk g 0).take j).map gF).map kI).length=j:=by rw [List.length_map];exact gR
    rw [nG];rcases ho with ⟨hn,rfl,rfl⟩|⟨q,rfl,rfl⟩
    ·(conv=>whnf);repeat ((first|refine ⟨_,_,bo.here _,⟨Nat.le_of_ble_eq_true rfl,rfl⟩,?_⟩|intro (nb:Nat));conv=>whnf)
     refine cF rfl ?_;(conv=>whnf);repeat ((first|refine ⟨ah ⟨by omega,by omega⟩,?_⟩|(refine ⟨Nat.le_of_ble_eq_true rfl,fun q=>?_⟩));conv=>whnf)
     exact ⟨_,_,ao.perm (List.Perm.swap _ _ _),_,(by omega),j+1,_,[(q,.tok)],hp,rfl,rfl,rfl,by omega,by omega,.inr ⟨q,by rw [oP,hn];rfl,rfl⟩,hN⟩
    (conv=>whnf);repeat ((first|refine ⟨_,_,bo.here _,⟨Nat.le_of_ble_eq_true rfl,rfl⟩,?_⟩|intro (nb:Nat));conv=>whnf)
    refine cF rfl ?_;(conv=>whnf);repeat ((first|refine ⟨ah ⟨by omega,by omega⟩,?_⟩|(refine ⟨(by rw [List.length_append,gQ];simp;unfold aU;omega),fun q2=>⟨_,.there (.here _),?_⟩⟩));conv=>whnf)
    exact ⟨_,_,ao.refl _ _,_,(by omega),j+1,_,[(q2,.tok)],hp,rfl,rfl,rfl,by omega,by omega,.inr ⟨q2,by rw [oP,List.map_append];rfl,rfl⟩,hN⟩
 have vq:(bk g 0).take j=(bk g 0).take most.toNat:=(by rw [show j=most.toNat by omega]);rw [vq] at ho gR;by_cases bE:bk g 0=[]
 ·rcases ho with ⟨hn,rfl,rfl⟩|⟨q,rfl,rfl⟩
  all_goals
   (conv=>whnf);skip;refine cT (by simp [bE]) ?_;(conv=>whnf);skip;rw [dF,fm,if_pos bE,if_neg (by decide)];exact ag.aH (.cons (ag.nil (by decide)) (.cons (ag.refl _) .nil))
 have dK:0<(((bk g 0).take most.toNat).map gF).length:=by rw [List.length_map,List.length_take];have:=List.length_pos_iff.2 bE;omega
 rcases ho with ⟨hn,rfl,rfl⟩|⟨q,rfl,rfl⟩
 ·rw [hn] at dK;simp at dK
 (conv=>whnf);skip;refine cF (decide_eq_false (by rw [List.length_map];omega)) ?_;(conv=>whnf);skip;rw [dF,fm,if_neg bE,if_pos rfl];exact ag.aH (.cons ag.sl (.cons (ag.refl _) .nil))
end Go.Abs.Wall.Lst
namespace Go.Abs.Wall.Lst
open Go Go.Abs Go.Proofs Go.Abs.Wall
def cn (p:List av):Int:=(p.map (·.cost)).sum
def yK:List av->List AV
 | []=>[.int .i64 0,.int .i64 0,.aT,.aT,.kA]
 | x::r=>cr x.word++[.au (.int .i64 (cn r)::yK r)]
def qD (p:List av):List AV:=.int .i64 (cn p)::yK p
def dp (p:List av):List AV:=[.au (qD p)]
def gq (l:List (List av)):List AV:=[.sl 1 none (l.map dp)]
theorem iQ (l:List (List av)):(gq l).length=1:=rfl
def cK (ls:List (List (List av))):List (List Int):=ls.map fun l=>l.map cn
def fY (ls:List (List (List av))) (w:Wy):List av:=(ls.getD w.aO []).getD w.aM []
def eU (ls:List (List (List av))) (rs:Nat->Nat):List (List (List av)):=ls.mapIdx fun k l=>l.drop (rs k)
theorem pF (ls:List (List (List av))) (rs:Nat->Nat):(eU ls rs).length=ls.length:=by simp [eU]
theorem rL {ls:List (List (List av))} {rs:Nat->Nat} {k:Nat} {l:List (List av)} (h:ls[k]?=some l):(eU ls rs)[k]?=some (l.drop (rs k)):=by unfold eU;rw [List.getElem?_mapIdx,h];rfl
theorem yL {ls:List (List (List av))} {rs:Nat->Nat} {k:Nat} {l:List (List av)} (h:ls[k]?=some l):(eU ls rs).set k ((l.drop (rs k)).drop 1)=eU ls (up rs k):=by
 refine List.ext_getElem? fun j=>?_;by_cases hj:j=k
 ·subst hj;rw [List.getElem?_set_self (by rw [pF];exact (List.getElem?_eq_some_iff.1 h).1),rL h,List.drop_drop];unfold up;rw [if_pos rfl,Nat.add_comm]
 rw [List.getElem?_set_ne (Ne.symm hj)];unfold eU;rw [List.getElem?_mapIdx,List.getElem?_mapIdx];unfold up;rw [if_neg hj]
theorem CN (ls:List (List (List av))):eU ls nP=ls:=by unfold eU nP;refine List.ext_getElem? fun j=>?_;rw [List.getElem?_mapIdx];cases ls[j]?<;>rfl
def eV (cur:List (List (List av))) (i:Nat) (b:Int):Prop:=
 (b = -1/\∀ j l,j<i->cur[j]?=some l->l=[]) \/
 ∃ (k:Nat) (p:List av) (r:List (List av)),b=(k:Int)/\k<i/\cur[k]?=some (p::r)/\∀ (j:Nat) q s,j<i->cur[j]?=some (q::s)->cn p<cn q\/(cn p=cn q/\k<=j)
theorem eV.lt {cur:List (List (List av))} {i:Nat} {b:Int} {n:Nat} (h:eV cur i b) (hi:i<=n):-1<=b/\b<n:=by rcases h with ⟨rfl,_⟩|⟨k,p,r,rfl,hk,_⟩<;>omega
theorem eV.full {cur:List (List (List av))} {i:Nat} {b:Int} {lb:List (List av)} (h:eV cur i b) (hb:0<=b) (dh:cur[b.toNat]?=some lb):0<lb.length:=by
 rcases h with ⟨rfl,_⟩|⟨k,p,r,rfl,hk,hc,_⟩
 ·omega
 rw [Int.toNat_natCast,hc] at dh;cases dh
 simp
theorem eV.step {cur:List (List (List av))} {i:Nat} {b:Int} {li lb:List (List av)} (h:eV cur i b) (dR:cur[i]?=some li) (dh:cur[b.toNat]?=some lb) :
  (0<li.length->(b<0\/cn (li.getD 0 [])<cn (lb.getD 0 []))->eV cur (i+1) i)/\(¬ (0<li.length/\(b<0\/cn (li.getD 0 [])<cn (lb.getD 0 [])))->eV cur (i+1) b):=by
 have yM:∀ (j:Nat),j<i+1->j<i\/j=i:=fun j hj=>by omega
 constructor
 ·intro h1 h2;cases li with
  | nil=>simp at h1
  | cons p r=>
    refine .inr ⟨i,p,r,rfl,by omega,dR,fun j q s hj hq=>?_⟩;rcases yM j hj with hj|rfl
    ·left;rcases h with ⟨rfl,he⟩|⟨k,p',r',rfl,hk,hc,hm⟩
     ·have:=he j _ hj hq;cases this
     rw [Int.toNat_natCast,hc] at dh;cases dh
     have h3:cn p<cn p':=by
      rcases h2 with h2|h2
      ·omega
      simpa using h2
     rcases hm j q s hj hq with e|⟨e,_⟩<;>omega
    rw [dR] at hq;cases hq
    exact .inr ⟨rfl,Nat.le_refl _⟩
 intro hn;rcases h with ⟨rfl,he⟩|⟨k,p,r,rfl,hk,hc,hm⟩
 ·refine .inl ⟨rfl,fun j l hj hl=>?_⟩;rcases yM j hj with hj|rfl
  ·exact he j l hj hl
  rw [dR] at hl;cases hl
  refine Classical.byContradiction fun aJ=>hn ⟨List.length_pos_iff.2 aJ,.inl (by omega)⟩
 refine .inr ⟨k,p,r,rfl,by omega,hc,fun j q s hj hq=>?_⟩;rcases yM j hj with hj|rfl
 ·exact hm j q s hj hq
 rw [dR] at hq;cases hq
 rw [Int.toNat_natCast,hc] at dh;cases dh
 have:¬ cn q<cn p:=fun e=>hn ⟨by simp,.inr (by simpa using e)⟩;by_cases e:cn p<cn q
 ·exact .inl e
 exact .inr ⟨by omega,by omega⟩
theorem eV.end {ls:List (List (List av))} {rs:Nat->Nat} {b:Int} (h:eV (eU ls rs) ls.length b) :
  (b = -1/\gU (cK ls) rs=none)\/∃ (k:Nat) (p:List av) (r:List (List av)) (l:List (List av)),b=(k:Int)/\ls[k]?=some l/\(eU ls rs)[k]?=some (p::r)/\l.drop (rs k)=p::r/\gU (cK ls) rs=some ⟨cn p,k,rs k⟩:=by
 have qC:∀ x,iv (cK ls) rs x->∃ q s,(eU ls rs)[x.aO]?=some (q::s)/\cn q=x.cost:=by
  rintro x ⟨h1,l,h2,h3⟩;unfold cK at h2;rw [List.getElem?_map] at h2;cases hl:ls[x.aO]? with
  | none=>rw [hl] at h2;cases h2
  | some l0=>
    rw [hl] at h2;cases h2
    rw [List.getElem?_map,h1] at h3;cases hq:l0[rs x.aO]? with
    | none=>rw [hq] at h3;cases h3
    | some q=>
      rw [hq] at h3;refine ⟨q,l0.drop (rs x.aO+1),?_,by simpa using h3⟩;rw [rL hl,drop_cons hq]
 rcases h with ⟨rfl,he⟩|⟨k,p,r,rfl,hk,hc,hm⟩
 ·left;refine ⟨rfl,FI fun x hx=>?_⟩;obtain ⟨q,s,h1,_⟩:=qC x hx;have aI:=(List.getElem?_eq_some_iff.1 h1).1;rw [pF] at aI;have:=he x.aO _ aI h1;cases this
 right;obtain ⟨l,hl⟩:=aL (l:=ls) hk;have hd:l.drop (rs k)=p::r:=by have:=rL (rs:=rs) hl;rw [hc] at this;exact (Option.some.inj this).symm
 have hp:l[rs k]?=some p:=by have:=congrArg (fun z=>z[0]?) hd;simpa [List.getElem?_drop] using this
 refine ⟨k,p,r,l,rfl,hl,hc,hd,FH ⟨rfl,l.map cn,?_,?_⟩ fun y hy=>?_⟩
 ·unfold cK;rw [List.getElem?_map,hl];rfl
 ·show (l.map cn)[rs k]?=some (cn p);rw [List.getElem?_map,hp];rfl
 obtain ⟨q,s,h1,h2⟩:=qC y hy;have aI:=(List.getElem?_eq_some_iff.1 h1).1;rw [pF] at aI;rcases hm y.aO q s aI h1 with e|⟨e1,e2⟩
 ·exact .inr (.inl (by show cn p<y.cost;omega))
 by_cases e3:y.aO=k
 ·left;refine iv.eq hy ⟨rfl,l.map cn,?_,?_⟩ e3
  ·unfold cK;rw [List.getElem?_map,hl];rfl
  show (l.map cn)[rs k]?=some (cn p);rw [List.getElem?_map,hp];rfl
 exact .inr (.inr ⟨by show cn p=y.cost;omega,by show k<y.aO;omega⟩)
def fo (ls:List (List (List av))) (most:Nat):List (List av):=((aW (cK ls)).take most).map (fY ls)
def c161:az:=⟨[0,1,4,5,6,7,11,15,48,51],[],[],[],[(7,[0,1,2,3,4,5,6,7,8,9,10,11,12,13,14,15,16,17,18,19,20,21,22,23,24,25,26,27,28,29,30],[])],[]⟩
theorem FT (ls:List (List (List av))) (aJ:0<ls.length) (hl:ls.length<=65536) (gD:∀ l∈ls,l.length<=65536) (most:Nat) (hm:most<=64) (b:Nat) :
  aB Tryz.prog 161 [.aQ b 0 ls.length 1,.int .i64 most] [(b,.vec (ls.map gq).flatten)] (fun v h'=>v=.sl 1 none ((fo ls most).map dp)/\h'=[]):=by
 refine aB.post (R:=fun v h'=>ag v (.sl 1 none ((fo ls most).map dp))) ?_ ?_
 ·refine aG (F:=Tryz.f161) c161 rfl rfl rfl mixed rfl fun X=>?_;(conv=>whnf);skip;refine bW rfl mixed [0,1,5] [] (fun m r h=>∃ (t:Nat) (ov:AV) (oh:af),r=[(0,[],.aQ b 0 ls.length 1),(1,[],.int .i64 most),(5,[],ov)]/\h=(b,.vec ((eU ls (cU (cK ls) t)).map gq).flatten)::oh/\m=65 - t/\t<=most/\t<=(aW (cK ls)).length/\Out 1 dp (((aW (cK ls)).take t).map (fY ls)) ov oh) ?_ ?_
  ·(conv=>whnf);exact ⟨_,_,ao.refl _ _,_,0,.aT,[],rfl,by rw [show cU (cK ls) 0=nP from rfl,CN],rfl,by omega,by omega,.inl ⟨by simp,rfl,rfl⟩⟩
  rintro m r h' ⟨t,ov,oh,rfl,rfl,rfl,yh,gR,ho⟩;have bH:=ho;have mW:(((aW (cK ls)).take t).map (fY ls)).length=t:=by rw [List.length_map,List.length_take];omega
  obtain ⟨cur,jB⟩:∃ cur,cur=eU ls (cU (cK ls) t):=⟨_,rfl⟩;have bz:cur.length=ls.length:=by rw [jB,pF]
  have qE:∀ (k:Nat) l,cur[k]?=some l->l.length<=65536:=by
   intro k l hk;rw [jB] at hk;have aI:=(List.getElem?_eq_some_iff.1 hk).1;rw [pF] at aI;obtain ⟨l0,dF⟩:=aL (l:=ls) aI;rw [rL dF] at hk;cases hk
   have:=gD l0 (List.mem_of_getElem? dF);rw [List.length_drop];omega
  rw [<- jB];have gQ:((((aW (cK ls)).take t).map (fY ls)).map dp).length=t:=by rw [List.length_map];exact mW
  rcases ho with ⟨pG,rfl,rfl⟩|⟨q,rfl,rfl⟩
  ·have Jr:t=0:=by rw [pG] at mW;exact mW.symm
   skip;(conv=>whnf);skip;refine ⟨fun hz=>?_,fun hz=>?_⟩<;>simp at hz
   ·have JA:t<most:=(by omega);refine bW rfl mixed [0,1,5,6,7] [] (fun m r h=>∃ (i:Nat) (bi:Int),r=[(0,[],.aQ b 0 ls.length 1),(1,[],.int .i64 most),(5,[],.aT),(6,[],.int .i64 bi),(7,[],.int .i64 i)]/\h=(b,.vec (cur.map gq).flatten)::[]/\m=ls.length - i/\i<=ls.length/\eV cur i bi) ?_ ?_
    ·(conv=>whnf);exact ⟨_,_,ao.refl _ _,_,0,-1,rfl,rfl,rfl,by omega,.inl ⟨rfl,fun j l hj=>by omega⟩⟩
    rintro m r h' ⟨i,bi,rfl,rfl,rfl,hi,hb⟩;(conv=>whnf);refine ⟨fun fU=>?_,fun fU=>?_⟩<;>simp at fU
    ·obtain ⟨li,dR⟩:=aL (l:=cur) (i:=i) (by omega);have JB:=qE i li dR;have wQ:-1<=bi/\bi<ls.length:=hb.lt (by omega);obtain ⟨lb,dh⟩:=aL (l:=cur) (i:=bi.toNat) (by omega);have JC:=qE _ lb dh;(conv=>whnf);repeat ((first|(refine fx (i:=i) (by omega) ?_)|(refine eR iQ (.head _) (by omega) dR ?_)|(refine rE (enc:=dp) [] ?_ ?_;(focus (conv=>whnf;skip));(focus (intro h1 h2;simp only [decide_eq_true_eq,decide_eq_false_iff_not,List.length_map] at h1 h2;first|(show 0<=(0:Int)/\(0:Int)<(li.length:Int);omega)|(show 0<=(0:Int)/\(0:Int)<(lb.length:Int);have:=hb.full (by omega) dh;omega))))|(refine yy ?_ ?_;(focus (conv=>whnf;skip));(focus (intro h1 h2;simp only [decide_eq_true_eq,decide_eq_false_iff_not,List.length_map] at h1 h2;show 0<=bi/\bi<ls.length;omega)))|(refine eR iQ (.head _) (by omega) dh ?_)|refine And.intro (by show aP (aN Tryz.f161 _) _=true;decide +kernel) ?_);conv=>whnf)
     refine ⟨fun bE=>?_,fun bE=>?_⟩
     ·(conv=>whnf);repeat (refine ⟨ah ⟨by omega,by omega⟩,?_⟩;conv=>whnf)
      (conv=>whnf);skip;exact ⟨_,_,ao.refl _ _,_,(by omega),i+1,i,rfl,rfl,rfl,by omega,(hb.step dR dh).1 (by simp at bE;omega) (by simp at bE;simpa using bE.2)⟩
     (conv=>whnf);repeat (refine ⟨ah ⟨by omega,by omega⟩,?_⟩;conv=>whnf)
     (conv=>whnf);skip;exact ⟨_,_,ao.refl _ _,_,(by omega),i+1,bi,rfl,rfl,rfl,by omega,(hb.step dR dh).2 (by rintro ⟨e1,e2⟩;simp at bE;simp at e2;have:=bE e1;omega)⟩
    obtain rfl:i=ls.length:=by omega
    rw [jB] at hb;rcases hb.end with ⟨rfl,mT⟩|⟨k,pp,rr,l,rfl,dI,gk,mr,iL⟩
    ·have oQ:(aW (cK ls)).take t=(aW (cK ls)).take most:=by
      have hle:(aW (cK ls)).length<=t:=by
       rcases Nat.lt_or_ge t (aW (cK ls)).length with e|e
       ·obtain ⟨x,hx⟩:=aL e;rw [lG,mT] at hx;cases hx
       exact e
      rw [List.take_of_length_le hle,List.take_of_length_le (by omega)]
     (conv=>whnf);skip;refine ⟨fun bE=>?_,fun bE=>?_⟩<;>simp at bE
     have dV:fo ls most=((aW (cK ls)).take t).map (fY ls):=by unfold fo;rw [oQ]
     (conv=>whnf);skip;rw [dV];exact bH.le (by decide)
    have lV:=iL;rw [<- lG] at lV;have yN:k<ls.length:=(List.getElem?_eq_some_iff.1 dI).1;rw [<- jB] at gk;have dW:=qE k _ gk;(conv=>whnf);skip;refine ⟨fun bE=>absurd (of_decide_eq_true bE) (by omega),fun bE=>?_⟩;(conv=>whnf);repeat ((first|(refine fx (i:=k) (by omega) ?_)|(refine eR iQ (.head _) (by omega) gk ?_)|(refine ix (enc:=dp) (i:=0) rfl ?_));conv=>whnf)
    have cj:((aW (cK ls)).take (t+1)).map (fY ls)=((aW (cK ls)).take t).map (fY ls)++[pp]:=by rw [dj lV,List.map_append];refine congrArg (_++[·]) ?_;show (ls.getD k []).getD (cU (cK ls) t k) []=pp;rw [show ls.getD k []=l by rw [List.getD_eq_getElem?_getD,dI];rfl,List.getD_eq_getElem?_getD];have:=congrArg (fun z=>z[0]?) mr;simp only [List.getElem?_drop,Nat.add_zero,List.getElem?_cons_zero] at this;rw [this];rfl
    have ui:cur.set k rr=eU ls (cU (cK ls) (t+1)):=by rw [ue lV,jB,<- yL dI,mr];rfl
    have JD:t<(aW (cK ls)).length:=(List.getElem?_eq_some_iff.1 lV).1;refine ⟨Nat.le_of_ble_eq_true rfl,fun q2=>?_⟩;(conv=>whnf);repeat ((first|(refine fx (i:=k) (by omega) ?_)|(refine eR iQ (by first|exact .head _|exact .tail _ (.head _)) (by omega) gk ?_)|(refine ⟨ah ⟨by decide,by rw [List.length_map,List.length_cons];omega,Int.le_refl _⟩,?_⟩));conv=>whnf)
    (conv=>whnf);have vw:List.drop (Int.toNat 1) (List.take ((((pp::rr).map dp).length:Int)).toNat ((pp::rr).map dp))=rr.map dp:=by rw [Int.toNat_natCast,List.take_length];rfl
    refine py (enc:=gq) (L:=cur) rr (by decide) iQ (by rw [bz];exact yN) (by omega) (by unfold gq;rw [<- vw];rfl) (by first|exact .here _|exact .there (.here _)) ?_;(conv=>whnf);skip;exact ⟨_,_,ao.perm (List.Perm.swap _ _ _),_,(by omega),t+1,_,[(q2,.tok)],rfl,(by rw [ui]),rfl,by omega,by omega,.inr ⟨q2,(by rw [cj,pG];rfl),rfl⟩⟩
   have oQ:(aW (cK ls)).take t=(aW (cK ls)).take most:=(by rw [show t=most by omega]);have dV:fo ls most=((aW (cK ls)).take t).map (fY ls):=by unfold fo;rw [oQ]
   (conv=>whnf);skip;rw [dV];exact bH.le (by decide)
  skip;skip;(conv=>whnf);skip;refine ⟨fun hz=>?_,fun hz=>?_⟩<;>simp at hz
  ·have JA:t<most:=(by omega);refine bW rfl mixed [0,1,5,6,7] [] (fun m r h=>∃ (i:Nat) (bi:Int),r=[(0,[],.aQ b 0 ls.length 1),(1,[],.int .i64 most),(5,[],.sl 1 (some q) ((((aW (cK ls)).take t).map (fY ls)).map dp)),(6,[],.int .i64 bi),(7,[],.int .i64 i)]/\h=(b,.vec (cur.map gq).flatten)::[(q,.tok)]/\m=ls.length - i/\i<=ls.length/\eV cur i bi) ?_ ?_
   ·(conv=>whnf);exact ⟨_,_,ao.refl _ _,_,0,-1,rfl,rfl,rfl,by omega,.inl ⟨rfl,fun j l hj=>by omega⟩⟩
   rintro m r h' ⟨i,bi,rfl,rfl,rfl,hi,hb⟩;(conv=>whnf);refine ⟨fun fU=>?_,fun fU=>?_⟩<;>simp at fU
   ·obtain ⟨li,dR⟩:=aL (l:=cur) (i:=i) (by omega);have JB:=qE i li dR;have wQ:-1<=bi/\bi<ls.length:=hb.lt (by omega);obtain ⟨lb,dh⟩:=aL (l:=cur) (i:=bi.toNat) (by omega);have JC:=qE _ lb dh;(conv=>whnf);repeat ((first|(refine fx (i:=i) (by omega) ?_)|(refine eR iQ (.head _) (by omega) dR ?_)|(refine rE (enc:=dp) [] ?_ ?_;(focus (conv=>whnf;skip));(focus (intro h1 h2;simp only [decide_eq_true_eq,decide_eq_false_iff_not,List.length_map] at h1 h2;first|(show 0<=(0:Int)/\(0:Int)<(li.length:Int);omega)|(show 0<=(0:Int)/\(0:Int)<(lb.length:Int);have:=hb.full (by omega) dh;omega))))|(refine yy ?_ ?_;(focus (conv=>whnf;skip));(focus (intro h1 h2;simp only [decide_eq_true_eq,decide_eq_false_iff_not,List.length_map] at h1 h2;show 0<=bi/\bi<ls.length;omega)))|(refine eR iQ (.head _) (by omega) dh ?_)|refine And.intro (by show aP (aN Tryz.f161 _) _=true;decide +kernel) ?_);conv=>whnf)
    refine ⟨fun bE=>?_,fun bE=>?_⟩
    ·(conv=>whnf);repeat (refine ⟨ah ⟨by omega,by omega⟩,?_⟩;conv=>whnf)
     (conv=>whnf);skip;exact ⟨_,_,ao.refl _ _,_,(by omega),i+1,i,rfl,rfl,rfl,by omega,(hb.step dR dh).1 (by simp at bE;omega) (by simp at bE;simpa using bE.2)⟩
    (conv=>whnf);repeat (refine ⟨ah ⟨by omega,by omega⟩,?_⟩;conv=>whnf)
    (conv=>whnf);skip;exact ⟨_,_,ao.refl _ _,_,(by omega),i+1,bi,rfl,rfl,rfl,by omega,(hb.step dR dh).2 (by rintro ⟨e1,e2⟩;simp at bE;simp at e2;have:=bE e1;omega)⟩
   obtain rfl:i=ls.length:=by omega
   rw [jB] at hb;rcases hb.end with ⟨rfl,mT⟩|⟨k,pp,rr,l,rfl,dI,gk,mr,iL⟩
   ·have oQ:(aW (cK ls)).take t=(aW (cK ls)).take most:=by
     have hle:(aW (cK ls)).length<=t:=by
      rcases Nat.lt_or_ge t (aW (cK ls)).length with e|e
      ·obtain ⟨x,hx⟩:=aL e;rw [lG,mT] at hx;cases hx
      exact e
     rw [List.take_of_length_le hle,List.take_of_length_le (by omega)]
    (conv=>whnf);skip;refine ⟨fun bE=>?_,fun bE=>?_⟩<;>simp at bE
    have dV:fo ls most=((aW (cK ls)).take t).map (fY ls):=by unfold fo;rw [oQ]
    (conv=>whnf);skip;rw [dV];exact bH.le (by decide)
   have lV:=iL;rw [<- lG] at lV;have yN:k<ls.length:=(List.getElem?_eq_some_iff.1 dI).1;rw [<- jB] at gk;have dW:=qE k _ gk;(conv=>whnf);skip;refine ⟨fun bE=>absurd (of_decide_eq_true bE) (by omega),fun bE=>?_⟩;(conv=>whnf);repeat ((first|(refine fx (i:=k) (by omega) ?_)|(refine eR iQ (.head _) (by omega) gk ?_)|(refine ix (enc:=dp) (i:=0) rfl ?_));conv=>whnf)
   have cj:((aW (cK ls)).take (t+1)).map (fY ls)=((aW (cK ls)).take t).map (fY ls)++[pp]:=by rw [dj lV,List.map_append];refine congrArg (_++[·]) ?_;show (ls.getD k []).getD (cU (cK ls) t k) []=pp;rw [show ls.getD k []=l by rw [List.getD_eq_getElem?_getD,dI];rfl,List.getD_eq_getElem?_getD];have:=congrArg (fun z=>z[0]?) mr;simp only [List.getElem?_drop,Nat.add_zero,List.getElem?_cons_zero] at this;rw [this];rfl
   have ui:cur.set k rr=eU ls (cU (cK ls) (t+1)):=by rw [ue lV,jB,<- yL dI,mr];rfl
   have JD:t<(aW (cK ls)).length:=(List.getElem?_eq_some_iff.1 lV).1;refine ⟨(by rw [List.length_append,gQ];simp;unfold aU;omega),fun q2=>⟨_,.there (.here _),?_⟩⟩;(conv=>whnf);repeat ((first|(refine fx (i:=k) (by omega) ?_)|(refine eR iQ (by first|exact .head _|exact .tail _ (.head _)) (by omega) gk ?_)|(refine ⟨ah ⟨by decide,by rw [List.length_map,List.length_cons];omega,Int.le_refl _⟩,?_⟩));conv=>whnf)
   (conv=>whnf);have vw:List.drop (Int.toNat 1) (List.take ((((pp::rr).map dp).length:Int)).toNat ((pp::rr).map dp))=rr.map dp:=by rw [Int.toNat_natCast,List.take_length];rfl
   refine py (enc:=gq) (L:=cur) rr (by decide) iQ (by rw [bz];exact yN) (by omega) (by unfold gq;rw [<- vw];rfl) (by first|exact .here _|exact .there (.here _)) ?_;(conv=>whnf);skip;exact ⟨_,_,ao.refl _ _,_,(by omega),t+1,_,[(q2,.tok)],rfl,(by rw [ui]),rfl,by omega,by omega,.inr ⟨q2,(by rw [cj,List.map_append];rfl),rfl⟩⟩
  have oQ:(aW (cK ls)).take t=(aW (cK ls)).take most:=(by rw [show t=most by omega]);have dV:fo ls most=((aW (cK ls)).take t).map (fY ls):=by unfold fo;rw [oQ]
  (conv=>whnf);skip;rw [dV];exact bH.le (by decide)
 intro v h1 hv;exact ⟨.sl 1 none ((fo ls most).map dp),[],⟨rfl,rfl⟩,hv,fun k o hm=>(by cases hm),fun _=>(by simp [keys])⟩
end Go.Abs.Wall.Lst
