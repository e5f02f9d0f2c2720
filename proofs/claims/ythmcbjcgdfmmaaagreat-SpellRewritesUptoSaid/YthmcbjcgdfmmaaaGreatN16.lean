/- Small laws for the walks and contracts of functions; each theorem names its conditions. -/
import Derived.Test.YthmcbjcgdfmmaaaGreatN15
set_option maxRecDepth 100000
set_option maxHeartbeats 2000000
namespace Go.Abs.Wall.Lst
open Go Go.Abs Go.Proofs Go.Abs.Wall
def kT (p:nQ):ue:=⟨p.2.map (·.word),p.1⟩
theorem wP {g:List (List ar)} (hg:fJ g) {i ρ:Nat} (hi:i<g.length) {w:Wy} {p:nQ} (hw:(dp g i)[ρ]?=some w) (hp:(bz g i)[ρ]?=some p) :
  ∃ es x w' p',g[i]?=some es/\es[w.aR]?=some x/\Fe g.length i x/\(dp g x.to.toNat)[w.aO]?=some w'/\(bz g x.to.toNat)[w.aO]?=some p'/\p=(w.cost,x::p'.2):=by
 obtain ⟨es,bp⟩:=aF hi;have hE:=hg.aR i es bp;rw [wM bp hE,List.getElem?_map] at hp;unfold dp at hw;rw [bp] at hw;simp only at hw;rw [hw] at hp;have hp:nR es (fun x=>bz g x.to.toNat) w=p:=(by simpa using hp);obtain ⟨_,l,h2,h3⟩:=mG hw;have aP:=(List.getElem?_eq_some_iff.1 h2).1;rw [Ct] at aP;obtain ⟨x,hx⟩:=aF aP;have ho:=hE x (List.mem_of_getElem? hx);obtain ⟨l',e1,e2⟩:=yJ hg bp hx;rw [h2] at e1;cases e1
 rw [e2] at h3;cases hq:(dp g x.to.toNat)[w.aO]? with
 | none=>rw [hq] at h3;cases h3
 | some w'=>
   have:=yI hg (i:=x.to.toNat) (by have:=ho.hi;omega) w.aO;rw [hq] at this;cases hr:(bz g x.to.toNat)[w.aO]? with
   | none=>rw [hr] at this;cases this
   | some p'=>
     refine ⟨es,x,w',p',bp,hx,ho,hq,hr,?_⟩;rw [<- hp];unfold nR;rw [hx];simp only;rw [List.getD_eq_getElem?_getD,hr];rfl
theorem Oc {g:List (List ar)} {ρ:Nat} {w:Wy} {p:nQ} (hw:(dp g g.length)[ρ]?=some w) (hp:(bz g g.length)[ρ]?=some p):p.2=[]/\ρ=0:=by
 rw [yH] at hp;cases ρ with
 | zero=>simp at hp;subst hp;exact ⟨rfl,rfl⟩
 | succ n=>simp at hp
theorem Od {g:List (List ar)} {i ρ:Nat} {w:Wy} (hw:(dp g i)[ρ]?=some w):w.aO<=ρ:=by
 unfold dp at hw;split at hw
 ·cases ρ with
  | zero=>simp at hw;subst hw;exact Nat.le_refl _
  | succ n=>simp at hw
 exact Ck hw
def c67:av:=⟨[0,1,4,5,6,7,8,17,31],[],[8],[],[(7,[0,1,2,3,4,5,6,7,8,9,10,11,12,13,14,15],[8]),(8,[0,1,2,3,4,5,6,7,8],[])],[]⟩
def vl (g:List (List ar)) (aO:Nat):AV:=match (bz g 0)[aO]? with
 | none=>.aB [.agg [.aS,.int .i64 0],.bool false]
 | some p=>.aB [.agg (km (kT p)),.bool true]
theorem UY (g:List (List ar)) (hg:fJ g) (tb:Nat) (R:List Int) (ks:List Nat) (nq:Option Nat) (nv:AV) (ea:ks.length=g.length) (Cy:g=[]\/nv=.sl 1 nq (ks.map mI)) (aO:Nat) (hr:aO<=64) (hp:af) (hN:fk g 0 ks hp) :
  aw Tryz.prog 67 [.ba tb 0,.int .i64 aO] ((tb,gh g R nv)::hp) (fun v h'=>v=vl g aO/\∃ aX,fk g 0 ks aX/\h'=(tb,gh g R nv)::aX):=by
 have NY:=hg.bB
 have Oe:∀ (A B:af) (hp:af) (i r:Nat),i<=g.length->r<=64->fk g 0 ks hp->aw Tryz.prog 114 [.ba tb 0,.int .i64 i,.int .i64 r] (A++(tb,gh g R nv)::(B++hp)) (fun v h'=>v=bW g i r/\∃ aX,fk g 0 ks aX/\h'=A++(tb,gh g R nv)::(B++aX)):=by
  intro A B hp i r hi hr hN;obtain ⟨hA,hB,rfl,nA,nB⟩:=hN.split i (by omega);rw [Nat.zero_add] at nB;have gf:(ks.take i).length=i:=by rw [List.length_take];omega
  have h1:=getAll g hg (g.length - i) i (by omega) tb R (ks.take i) (ks.drop i) nq nv r hB gf (by rw [List.take_append_drop];exact ea) (by rw [List.take_append_drop];exact Cy) nB hr
  have pm:∀ hB:af,((tb,gh g R nv)::hB++(A++(B++hA))).Perm (A++(tb,gh g R nv)::(B++(hA++hB))):=fun hB=>
   (List.Perm.cons _ IL).trans List.perm_middle.symm
  refine aw.re h1 (h2:=A++(B++hA)) (pm hB) ?_;rintro v h3 ⟨rfl,aX,jm,rfl⟩;refine ⟨_,pm aX,rfl,hA++aX,?_,rfl⟩;have:=nA.join (by rw [gf,Nat.zero_add];exact jm);rwa [List.take_append_drop] at this
 refine aw.post (R:=fun v h'=>∃ v',v'=vl g aO/\aa v v'/\∃ aX Z,fk g 0 ks aX/\h'.Perm ((tb,gh g R nv)::aX++Z)) ?_ ?_
 ·refine aA (F:=Tryz.f67) c67 rfl rfl rfl mixed rfl fun X=>?_;(conv=>whnf);intro rb;(conv=>whnf);skip;refine aw.mono ?_ (Oe [(rb,.vec [.aS,.int .i64 0])] [] hp 0 aO (by omega) hr hN);clear hN;rintro v h1 ⟨rfl,hp,hN,rfl⟩;cases hw:(dp g 0)[aO]? with
  | none=>
    have dI:bW g 0 aO=.aB [.agg (al sR),.bool false]:=by unfold bW;rw [hw]
    rw [dI];(conv=>whnf);intro wb;(conv=>whnf);repeat (refine ⟨_,_,.here _,aI,?_⟩;conv=>whnf)
    refine cT rfl ?_;(conv=>whnf);repeat ((first|(refine ⟨_,_,.there (.here _),aI,?_⟩)|refine ⟨_,_,.tail _ (.head _),rfl,?_⟩);conv=>whnf)
    have lE:(bz g 0)[aO]?=none:=by
     have:=yI hg (i:=0) (by omega) aO;rw [hw] at this;cases hq:(bz g 0)[aO]? with
     | none=>rfl
     | some p=>rw [hq] at this;cases this
    refine ⟨_,rfl,?_,hp,[(wb,_),(rb,_)],hN,(List.perm_append_comm (l₁:=[_,_]) (l₂:=(tb,gh g R nv)::hp))⟩;unfold vl;rw [lE];exact aa.refl _
  | some w0=>
    have dI:bW g 0 aO=.aB [.agg (al w0),.bool true]:=by unfold bW;rw [hw]
    obtain ⟨p,jM⟩:∃ p,(bz g 0)[aO]?=some p:=by
     have:=yI hg (i:=0) (by omega) aO;rw [hw] at this;cases hq:(bz g 0)[aO]? with
     | none=>rw [hq] at this;cases this
     | some p=>exact ⟨p,rfl⟩
    have kN:p.1=w0.cost:=by have:=yI hg (i:=0) (by omega) aO;rw [hw,jM] at this;simpa using this
    rw [dI];(conv=>whnf);intro wb;(conv=>whnf);repeat (refine ⟨_,_,.here _,aI,?_⟩;conv=>whnf)
    refine cF rfl ?_;(conv=>whnf);repeat ((first|(refine ⟨_,_,.there (.here _),aI,?_⟩)|refine ⟨_,_,.head _,rfl,?_⟩);conv=>whnf)
    refine bD rfl mixed [0,4,6,7] [] (fun m r h=>∃ (i ρ:Nat) (w:Wy) (pc:nQ) (L:List ar) (wv:AV) (wh hp:af) (rb wb:Nat),r=[(0,[],.ba tb 0),(4,[],.ba rb 0),(6,[],.int .i64 i),(7,[],.ba wb 0)]/\h=(wb,.vec (al w))::(rb,.vec [wv,.int .i64 p.1])::(tb,gh g R nv)::(wh++hp)/\m=g.length - i/\i<=g.length/\(dp g i)[ρ]?=some w/\(bz g i)[ρ]?=some pc/\p.2=L++pc.2/\ρ<=64/\Out 4 cG (L.map (·.word)) wv wh/\fk g 0 ks hp/\L.length<=i) ?_ ?_
    ·(conv=>whnf);exact ⟨_,_,ah.refl _ _,_,0,aO,w0,p,[],.aS,[],hp,rb,wb,rfl,by rw [kN];rfl,rfl,by omega,hw,jM,rfl,hr,.inl ⟨rfl,rfl,rfl⟩,hN,Nat.le_refl _⟩
    clear hN;rintro m r h' ⟨i,ρ,w,pc,L,wv,wh,hp,rb,wb,rfl,rfl,rfl,hi,wQ,CE,hL,hρ,ho,hN,UZ⟩;(conv=>whnf);repeat ((refine ⟨_,_,.tail _ (.tail _ (.head _)),rfl,?_⟩);conv=>whnf)
    refine ⟨fun hz=>?_,fun hz=>?_⟩<;>simp at hz
    ·obtain ⟨es,x,w',p',bp,hx,jn,kR,aX,ft⟩:=wP hg hz wQ CE;have IU:=jn.lo;have IV:=jn.hi;have gy:=jn.fit;have jl:((x.to.toNat:Nat):Int)=x.to:=Int.toNat_of_nonneg (by omega);have nx:=Od wQ;have fu:((L.map (·.word)).map cG).length=L.length:=(by simp);have IY:=fun A B hp hN=>Oe A B hp x.to.toNat w.aO (by omega) (by omega) hN;rw [jl] at IY;have CF:bW g x.to.toNat w.aO=.aB [.agg (al w'),.bool true]:=by unfold bW;rw [kR]
     rcases ho with ⟨fw,rfl,rfl⟩|⟨q,rfl,rfl⟩
     ·(conv=>whnf);repeat ((first|refine ix (by assumption) ?_|(refine ⟨_,_,.tail _ (.tail _ (.head _)),rfl,?_⟩)|refine aY (Of x.word (by have:=gy.cl;unfold aN;omega) (by have:=gy.us;unfold aN;omega)) ?_|refine ⟨_,_,bj.here _,?_⟩|refine ⟨_,_,.head _,rfl,?_⟩|refine ⟨_,_,.tail _ (.head _),rfl,?_⟩|refine ⟨_,_,.here _,aI,?_⟩|refine And.intro (by show aJ (aH Tryz.f67 _) _=true;decide +kernel) ?_|intro (nb:Nat));conv=>whnf)
      refine ⟨Nat.le_of_ble_eq_true rfl,fun q=>?_⟩;(conv=>whnf);repeat ((first|(refine ⟨_,_,.there (.there (.here _)),aI,?_⟩)|refine ⟨_,_,.tail _ (.head _),rfl,?_⟩);conv=>whnf)
      refine aw.mono ?_ (IY [(q,.tok),(wb,.vec (al w)),(rb,.vec [.sl 4 (some q) [cG x.word],.int .i64 p.1])] [] hp hN);clear hN;rintro v h1 ⟨rfl,hp,hN,rfl⟩;rw [CF];(conv=>whnf);repeat ((refine ⟨_,_,.there (.here _),aI,?_⟩);conv=>whnf)
      exact ⟨_,_,ah.perm (List.perm_middle (l₁:=[_,_,_])).symm,_,(by omega),x.to.toNat,w.aO,w',p',L++[x],.sl 4 (some q) [cG x.word],[(q,.tok)],hp,rb,wb,by rw [jl],rfl,rfl,by omega,kR,aX,by rw [hL,ft,List.append_assoc];rfl,by omega,.inr ⟨q,by rw [List.map_append,fw];rfl,rfl⟩,hN,by rw [List.length_append];simp;omega⟩
     (conv=>whnf);repeat ((first|refine ix (by assumption) ?_|(refine ⟨_,_,.tail _ (.tail _ (.head _)),rfl,?_⟩)|refine aY (Of x.word (by have:=gy.cl;unfold aN;omega) (by have:=gy.us;unfold aN;omega)) ?_|refine ⟨_,_,bj.here _,?_⟩|refine ⟨_,_,.head _,rfl,?_⟩|refine ⟨_,_,.tail _ (.head _),rfl,?_⟩|refine ⟨_,_,.here _,aI,?_⟩|refine And.intro (by show aJ (aH Tryz.f67 _) _=true;decide +kernel) ?_|intro (nb:Nat));conv=>whnf)
     refine ⟨(by rw [List.length_append,fu];simp;unfold aN;omega),fun q2=>⟨_,.there (.there (.there (.here _))),?_⟩⟩;(conv=>whnf);repeat ((first|(refine ⟨_,_,.there (.here _),aI,?_⟩)|refine ⟨_,_,.head _,rfl,?_⟩);conv=>whnf)
     refine aw.mono ?_ (IY [(wb,.vec (al w)),(rb,.vec [.sl 4 (some q2) ((L.map (·.word)).map cG++[cG x.word]),.int .i64 p.1])] [(q2,.tok)] hp hN);clear hN;rintro v h1 ⟨rfl,hp,hN,rfl⟩;rw [CF];(conv=>whnf);repeat (refine ⟨_,_,.here _,aI,?_⟩;conv=>whnf)
     exact ⟨_,_,ah.refl _ _,_,(by omega),x.to.toNat,w.aO,w',p',L++[x],.sl 4 (some q2) ((L.map (·.word)).map cG++[cG x.word]),[(q2,.tok)],hp,rb,wb,by rw [jl],rfl,rfl,by omega,kR,aX,by rw [hL,ft,List.append_assoc];rfl,by omega,.inr ⟨q2,by rw [List.map_append,List.map_append];rfl,rfl⟩,hN,by rw [List.length_append];simp;omega⟩
    have bw:i=g.length:=(by omega);subst bw;obtain ⟨IZ,_⟩:=Oc wQ CE;(conv=>whnf);repeat ((first|(refine ⟨_,_,.there (.here _),aI,?_⟩)|refine ⟨_,_,.tail _ (.head _),rfl,?_⟩);conv=>whnf)
    refine ⟨_,rfl,?_,hp,(wb,.vec (al w))::(rb,.vec [wv,.int .i64 p.1])::wh,hN,?_⟩
    ·unfold vl;rw [jM];show aa _ (.aB [.agg [.sl 4 none ((p.2.map (·.word)).map cG),.int .i64 p.1],.bool true]);rw [hL,IZ,List.append_nil];exact aa.aB (.cons (aa.agg (.cons (ho.le (by decide)) (.cons (aa.refl _) .nil))) (.cons (aa.refl _) .nil))
    exact (List.perm_middle (l₁:=[_,_])).trans (List.Perm.cons _ (List.perm_append_comm (l₁:=_::_::wh) (l₂:=hp)))
 rintro v h1 ⟨v',rfl,hv,aX,Z,jm,eS⟩;refine ⟨_,_,⟨rfl,aX,jm,rfl⟩,hv,fun k o hm=>eS.mem_iff.2 (List.mem_append_left _ hm),fun hn=>?_⟩;have:=((eS.map (fun p:Nat × Ob=>p.1)).nodup_iff).1 hn;unfold keys;rw [List.map_append] at this;exact (List.nodup_append.1 this).1
def jo (g:List (List ar)) (most:Nat):List ue:=((bz g 0).take most).map kT
def ed (H:aD) (line:List Int) (most:Int):Int:=if dU H line≠0 then dU H line else if 1<=most/\most<=64 then (if bz (cZ H line) 0=[] then 52 else 0) else 1
def iX (H:aD) (line:List Int) (most:Int):List ue:=if ed H line most=0 then jo (cZ H line) most.toNat else []
def c35:av:=⟨[0,1,2,3,6,7,8,9,10,11,12,20,24,27,28,29,38,46],[],[11],[],[],[]⟩
theorem Va (H:aD) (line:List Int) (most:Int) (hf:dx H) (hl:line.length<=1048576) :
  ab Tryz.prog 35 [.agg (aZ H),.sl 1 none (ints line),.int .i64 most] [] (.aB [.sl 2 none ((iX H line most).map km),.int .i64 (ed H line most)]):=by
 have Vb:=Vc H line hf hl;refine ab.of ?_;refine aA (F:=Tryz.f35) c35 rfl rfl rfl mixed rfl fun X=>?_;(conv=>whnf);repeat (refine ab.k0 (Vb) ?_;conv=>whnf)
 refine ⟨fun h0=>?_,fun h0=>?_⟩<;>simp at h0
 ·have he:ed H line most=dU H line:=by unfold ed;rw [if_pos h0]
  (conv=>whnf);skip;unfold iX;rw [he,if_neg h0];exact aa.aB (.cons (aa.nil (by decide)) (.cons (aa.refl _) .nil))
 obtain ⟨hL,wJ,hg⟩:=wI h0;obtain ⟨g,mJ⟩:∃ g,g=cZ H line:=⟨_,rfl⟩;have dI:CG H line=.ai (Ax g (dV g)):=(by rw [CG,if_pos h0,mJ]);have dJ:ed H line most=if 1<=most/\most<=64 then (if bz g 0=[] then 52 else 0) else 1:=by unfold ed;rw [if_neg (by omega),mJ]
 have dw:iX H line most=if ed H line most=0 then jo g most.toNat else []:=by unfold iX;rw [mJ]
 rw [<- mJ] at hg wJ;rw [dI,h0];(conv=>whnf);repeat (refine ab.k0 (within _ _ _) ?_;conv=>whnf)
 by_cases hm:1<=most/\most<=64
 rotate_left
 ·refine cT (by simp;omega) ?_;(conv=>whnf);skip;rw [dw,dJ,if_neg hm,if_neg (by decide)];exact aa.aB (.cons (aa.nil (by decide)) (.cons (aa.refl _) .nil))
 rw [if_pos hm] at dJ;refine cF (by simp;omega) ?_;(conv=>whnf);skip;refine aw.mono ?_ (IX g hg);rintro v h1 ⟨tb,ks,nq,nv,hp,rfl,ea,Cy,hN,rfl⟩;(conv=>whnf);skip;refine bD rfl mixed [6,9,27,28] [] (fun m r h=>∃ (j:Nat) (ov:AV) (oh hp:af),r=[(6,[],ov),(9,[],.ba tb 0),(27,[],.int .i64 most),(28,[],.int .i64 j)]/\h=(tb,gh g (dV g) nv)::(oh++hp)/\m=65 - j/\(j:Int)<=most/\j<=(bz g 0).length/\Out 2 km (((bz g 0).take j).map kT) ov oh/\fk g 0 ks hp) ?_ ?_
 ·(conv=>whnf);exact ⟨_,_,ah.refl _ _,_,0,.aS,[],hp,rfl,rfl,rfl,by omega,by omega,.inl ⟨by simp,rfl,rfl⟩,hN⟩
 clear hN;rintro m r h' ⟨j,ov,oh,hp,rfl,rfl,rfl,Vd,gb,ho,hN⟩;have gf:(((bz g 0).take j).map kT).length=j:=by rw [List.length_map,List.length_take];omega
 (conv=>whnf);refine ⟨fun hz=>?_,fun hz=>?_⟩<;>simp at hz
 ·have jh:=UY g hg tb (dV g) ks nq nv ea Cy j (by omega) hp hN;have pm:∀ hp:af,((tb,gh g (dV g) nv)::hp++oh).Perm ((tb,gh g (dV g) nv)::(oh++hp)):=fun hp=>List.Perm.cons _ List.perm_append_comm
  have CH:=aw.re (R':=fun v H'=>v=vl g j/\∃ aX,fk g 0 ks aX/\H'=(tb,gh g (dV g) nv)::(oh++aX)) jh (pm hp) (by
   rintro v h1 ⟨rfl,aX,jm,rfl⟩;exact ⟨_,pm aX,rfl,aX,jm,rfl⟩)
  (conv=>whnf);skip;refine aw.mono ?_ CH;clear hN jh CH;rintro v h1 ⟨rfl,hp,hN,rfl⟩;cases jM:(bz g 0)[j]? with
  | none=>
    have np:vl g j=.aB [.agg [.aS,.int .i64 0],.bool false]:=by unfold vl;rw [jM]
    have vk:(bz g 0).take j=(bz g 0).take most.toNat:=by rw [List.getElem?_eq_none_iff] at jM;rw [List.take_of_length_le jM,List.take_of_length_le (by omega)]
    rw [np];(conv=>whnf);repeat ((first|refine ⟨_,_,bj.here _,⟨Nat.le_of_ble_eq_true rfl,rfl⟩,?_⟩|intro (nb:Nat));conv=>whnf)
    refine cT rfl ?_;rw [vk] at ho gf;by_cases bx:bz g 0=[]
    ·rcases ho with ⟨hn,rfl,rfl⟩|⟨q,rfl,rfl⟩
     all_goals
      (conv=>whnf);skip;refine cT (by simp [bx]) ?_;(conv=>whnf);skip;rw [dw,dJ,if_pos bx,if_neg (by decide)];exact aa.aB (.cons (aa.nil (by decide)) (.cons (aa.refl _) .nil))
    have eb:0<(((bz g 0).take most.toNat).map kT).length:=by rw [List.length_map,List.length_take];have:=List.length_pos_iff.2 bx;omega
    rcases ho with ⟨hn,rfl,rfl⟩|⟨q,rfl,rfl⟩
    ·rw [hn] at eb;simp at eb
    (conv=>whnf);skip;refine cF (decide_eq_false (by rw [List.length_map];omega)) ?_;(conv=>whnf);skip;rw [dw,dJ,if_neg bx,if_pos rfl];exact aa.aB (.cons aa.sl (.cons (aa.refl _) .nil))
  | some p=>
    have np:vl g j=.aB [.agg (km (kT p)),.bool true]:=by unfold vl;rw [jM]
    have Ve:=(List.getElem?_eq_some_iff.1 jM).1;have mK:((bz g 0).take (j+1)).map kT=((bz g 0).take j).map kT++[kT p]:=by rw [cN jM,List.map_append];rfl
    have fu:((((bz g 0).take j).map kT).map km).length=j:=by rw [List.length_map];exact gf
    rw [np];rcases ho with ⟨hn,rfl,rfl⟩|⟨q,rfl,rfl⟩
    ·(conv=>whnf);repeat ((first|refine ⟨_,_,bj.here _,⟨Nat.le_of_ble_eq_true rfl,rfl⟩,?_⟩|intro (nb:Nat));conv=>whnf)
     refine cF rfl ?_;(conv=>whnf);repeat ((first|refine ⟨ag ⟨by omega,by omega⟩,?_⟩|(refine ⟨Nat.le_of_ble_eq_true rfl,fun q=>?_⟩));conv=>whnf)
     exact ⟨_,_,ah.perm (List.Perm.swap _ _ _),_,(by omega),j+1,_,[(q,.tok)],hp,rfl,rfl,rfl,by omega,by omega,.inr ⟨q,by rw [mK,hn];rfl,rfl⟩,hN⟩
    (conv=>whnf);repeat ((first|refine ⟨_,_,bj.here _,⟨Nat.le_of_ble_eq_true rfl,rfl⟩,?_⟩|intro (nb:Nat));conv=>whnf)
    refine cF rfl ?_;(conv=>whnf);repeat ((first|refine ⟨ag ⟨by omega,by omega⟩,?_⟩|(refine ⟨(by rw [List.length_append,fu];simp;unfold aN;omega),fun q2=>⟨_,.there (.here _),?_⟩⟩));conv=>whnf)
    exact ⟨_,_,ah.refl _ _,_,(by omega),j+1,_,[(q2,.tok)],hp,rfl,rfl,rfl,by omega,by omega,.inr ⟨q2,by rw [mK,List.map_append];rfl,rfl⟩,hN⟩
 have vk:(bz g 0).take j=(bz g 0).take most.toNat:=(by rw [show j=most.toNat by omega]);rw [vk] at ho gf;by_cases bx:bz g 0=[]
 ·rcases ho with ⟨hn,rfl,rfl⟩|⟨q,rfl,rfl⟩
  all_goals
   (conv=>whnf);skip;refine cT (by simp [bx]) ?_;(conv=>whnf);skip;rw [dw,dJ,if_pos bx,if_neg (by decide)];exact aa.aB (.cons (aa.nil (by decide)) (.cons (aa.refl _) .nil))
 have eb:0<(((bz g 0).take most.toNat).map kT).length:=by rw [List.length_map,List.length_take];have:=List.length_pos_iff.2 bx;omega
 rcases ho with ⟨hn,rfl,rfl⟩|⟨q,rfl,rfl⟩
 ·rw [hn] at eb;simp at eb
 (conv=>whnf);skip;refine cF (decide_eq_false (by rw [List.length_map];omega)) ?_;(conv=>whnf);skip;rw [dw,dJ,if_neg bx,if_pos rfl];exact aa.aB (.cons aa.sl (.cons (aa.refl _) .nil))
end Go.Abs.Wall.Lst
namespace Go.Abs.Wall.Lst
open Go Go.Abs Go.Proofs Go.Abs.Wall
def cA (p:List ar):Int:=(p.map (·.cost)).sum
def vm:List ar->List AV
 | []=>[.int .i64 0,.int .i64 0,.aS,.aS,.jC]
 | x::r=>cG x.word++[.ai (.int .i64 (cA r)::vm r)]
def oQ (p:List ar):List AV:=.int .i64 (cA p)::vm p
def ch (p:List ar):List AV:=[.ai (oQ p)]
def ck (l:List (List ar)):List AV:=[.sl 1 none (l.map ch)]
theorem gQ (l:List (List ar)):(ck l).length=1:=rfl
def cD (ls:List (List (List ar))):List (List Int):=ls.map fun l=>l.map cA
def eL (ls:List (List (List ar))) (w:Wy):List ar:=(ls.getD w.aR []).getD w.aO []
def eT (ls:List (List (List ar))) (rs:Nat->Nat):List (List (List ar)):=ls.mapIdx fun k l=>l.drop (rs k)
theorem pF (ls:List (List (List ar))) (rs:Nat->Nat):(eT ls rs).length=ls.length:=by simp [eT]
theorem rK {ls:List (List (List ar))} {rs:Nat->Nat} {k:Nat} {l:List (List ar)} (h:ls[k]?=some l):(eT ls rs)[k]?=some (l.drop (rs k)):=by unfold eT;rw [List.getElem?_mapIdx,h];rfl
theorem yN {ls:List (List (List ar))} {rs:Nat->Nat} {k:Nat} {l:List (List ar)} (h:ls[k]?=some l):(eT ls rs).set k ((l.drop (rs k)).drop 1)=eT ls (up rs k):=by
 refine List.ext_getElem? fun j=>?_;by_cases hj:j=k
 ·subst hj;rw [List.getElem?_set_self (by rw [pF];exact (List.getElem?_eq_some_iff.1 h).1),rK h,List.drop_drop];unfold up;rw [if_pos rfl,Nat.add_comm]
 rw [List.getElem?_set_ne (Ne.symm hj)];unfold eT;rw [List.getElem?_mapIdx,List.getElem?_mapIdx];unfold up;rw [if_neg hj]
theorem CI (ls:List (List (List ar))):eT ls mF=ls:=by unfold eT mF;refine List.ext_getElem? fun j=>?_;rw [List.getElem?_mapIdx];cases ls[j]?<;>rfl
def eU (cur:List (List (List ar))) (i:Nat) (b:Int):Prop:=
 (b = -1/\∀ j l,j<i->cur[j]?=some l->l=[]) \/
 ∃ (k:Nat) (p:List ar) (r:List (List ar)),b=(k:Int)/\k<i/\cur[k]?=some (p::r)/\∀ (j:Nat) q s,j<i->cur[j]?=some (q::s)->cA p<cA q\/(cA p=cA q/\k<=j)
theorem eU.lt {cur:List (List (List ar))} {i:Nat} {b:Int} {n:Nat} (h:eU cur i b) (hi:i<=n):-1<=b/\b<n:=by rcases h with ⟨rfl,_⟩|⟨k,p,r,rfl,hk,_⟩<;>omega
theorem eU.full {cur:List (List (List ar))} {i:Nat} {b:Int} {lb:List (List ar)} (h:eU cur i b) (hb:0<=b) (dF:cur[b.toNat]?=some lb):0<lb.length:=by
 rcases h with ⟨rfl,_⟩|⟨k,p,r,rfl,hk,hc,_⟩
 ·omega
 rw [Int.toNat_natCast,hc] at dF;cases dF
 simp
theorem eU.step {cur:List (List (List ar))} {i:Nat} {b:Int} {li lb:List (List ar)} (h:eU cur i b) (dW:cur[i]?=some li) (dF:cur[b.toNat]?=some lb) :
  (0<li.length->(b<0\/cA (li.getD 0 [])<cA (lb.getD 0 []))->eU cur (i+1) i)/\(¬ (0<li.length/\(b<0\/cA (li.getD 0 [])<cA (lb.getD 0 [])))->eU cur (i+1) b):=by
 have yO:∀ (j:Nat),j<i+1->j<i\/j=i:=fun j hj=>by omega
 constructor
 ·intro h1 h2;cases li with
  | nil=>simp at h1
  | cons p r=>
    refine .inr ⟨i,p,r,rfl,by omega,dW,fun j q s hj hq=>?_⟩;rcases yO j hj with hj|rfl
    ·left;rcases h with ⟨rfl,he⟩|⟨k,p',r',rfl,hk,hc,hm⟩
     ·have:=he j _ hj hq;cases this
     rw [Int.toNat_natCast,hc] at dF;cases dF
     have h3:cA p<cA p':=by
      rcases h2 with h2|h2
      ·omega
      simpa using h2
     rcases hm j q s hj hq with e|⟨e,_⟩<;>omega
    rw [dW] at hq;cases hq
    exact .inr ⟨rfl,Nat.le_refl _⟩
 intro hn;rcases h with ⟨rfl,he⟩|⟨k,p,r,rfl,hk,hc,hm⟩
 ·refine .inl ⟨rfl,fun j l hj hl=>?_⟩;rcases yO j hj with hj|rfl
  ·exact he j l hj hl
  rw [dW] at hl;cases hl
  refine Classical.byContradiction fun aM=>hn ⟨List.length_pos_iff.2 aM,.inl (by omega)⟩
 refine .inr ⟨k,p,r,rfl,by omega,hc,fun j q s hj hq=>?_⟩;rcases yO j hj with hj|rfl
 ·exact hm j q s hj hq
 rw [dW] at hq;cases hq
 rw [Int.toNat_natCast,hc] at dF;cases dF
 have:¬ cA q<cA p:=fun e=>hn ⟨by simp,.inr (by simpa using e)⟩;by_cases e:cA p<cA q
 ·exact .inl e
 exact .inr ⟨by omega,by omega⟩
theorem eU.end {ls:List (List (List ar))} {rs:Nat->Nat} {b:Int} (h:eU (eT ls rs) ls.length b) :
  (b = -1/\fK (cD ls) rs=none)\/∃ (k:Nat) (p:List ar) (r:List (List ar)) (l:List (List ar)),b=(k:Int)/\ls[k]?=some l/\(eT ls rs)[k]?=some (p::r)/\l.drop (rs k)=p::r/\fK (cD ls) rs=some ⟨cA p,k,rs k⟩:=by
 have qA:∀ x,ig (cD ls) rs x->∃ q s,(eT ls rs)[x.aR]?=some (q::s)/\cA q=x.cost:=by
  rintro x ⟨h1,l,h2,h3⟩;unfold cD at h2;rw [List.getElem?_map] at h2;cases hl:ls[x.aR]? with
  | none=>rw [hl] at h2;cases h2
  | some l0=>
    rw [hl] at h2;cases h2
    rw [List.getElem?_map,h1] at h3;cases hq:l0[rs x.aR]? with
    | none=>rw [hq] at h3;cases h3
    | some q=>
      rw [hq] at h3;refine ⟨q,l0.drop (rs x.aR+1),?_,by simpa using h3⟩;rw [rK hl,drop_cons hq]
 rcases h with ⟨rfl,he⟩|⟨k,p,r,rfl,hk,hc,hm⟩
 ·left;refine ⟨rfl,Fl fun x hx=>?_⟩;obtain ⟨q,s,h1,_⟩:=qA x hx;have aP:=(List.getElem?_eq_some_iff.1 h1).1;rw [pF] at aP;have:=he x.aR _ aP h1;cases this
 right;obtain ⟨l,hl⟩:=aF (l:=ls) hk;have hd:l.drop (rs k)=p::r:=by have:=rK (rs:=rs) hl;rw [hc] at this;exact (Option.some.inj this).symm
 have hp:l[rs k]?=some p:=by have:=congrArg (fun z=>z[0]?) hd;simpa [List.getElem?_drop] using this
 refine ⟨k,p,r,l,rfl,hl,hc,hd,Fk ⟨rfl,l.map cA,?_,?_⟩ fun y hy=>?_⟩
 ·unfold cD;rw [List.getElem?_map,hl];rfl
 ·show (l.map cA)[rs k]?=some (cA p);rw [List.getElem?_map,hp];rfl
 obtain ⟨q,s,h1,h2⟩:=qA y hy;have aP:=(List.getElem?_eq_some_iff.1 h1).1;rw [pF] at aP;rcases hm y.aR q s aP h1 with e|⟨e1,e2⟩
 ·exact .inr (.inl (by show cA p<y.cost;omega))
 by_cases e3:y.aR=k
 ·left;refine ig.eq hy ⟨rfl,l.map cA,?_,?_⟩ e3
  ·unfold cD;rw [List.getElem?_map,hl];rfl
  show (l.map cA)[rs k]?=some (cA p);rw [List.getElem?_map,hp];rfl
 exact .inr (.inr ⟨by show cA p=y.cost;omega,by show k<y.aR;omega⟩)
def cI (ls:List (List (List ar))) (most:Nat):List (List ar):=((aW (cD ls)).take most).map (eL ls)
def c50:av:=⟨[0,1,4,5,6,7,11,15,48,51],[],[],[],[(7,[0,1,2,3,4,5,6,7,8,9,10,11,12,13,14,15,16,17,18,19,20,21,22,23,24,25,26,27,28,29,30],[])],[]⟩
theorem uf (ls:List (List (List ar))) (aM:0<ls.length) (hl:ls.length<=65536) (eu:∀ l∈ls,l.length<=65536) (most:Nat) (hm:most<=64) (b:Nat) :
  aw Tryz.prog 50 [.aQ b 0 ls.length 1,.int .i64 most] [(b,.vec (ls.map ck).flatten)] (fun v h'=>v=.sl 1 none ((cI ls most).map ch)/\h'=[]):=by
 refine aw.post (R:=fun v h'=>aa v (.sl 1 none ((cI ls most).map ch))) ?_ ?_
 ·refine aA (F:=Tryz.f50) c50 rfl rfl rfl mixed rfl fun X=>?_;(conv=>whnf);skip;refine bD rfl mixed [0,1,5] [] (fun m r h=>∃ (t:Nat) (ov:AV) (oh:af),r=[(0,[],.aQ b 0 ls.length 1),(1,[],.int .i64 most),(5,[],ov)]/\h=(b,.vec ((eT ls (dz (cD ls) t)).map ck).flatten)::oh/\m=65 - t/\t<=most/\t<=(aW (cD ls)).length/\Out 1 ch (((aW (cD ls)).take t).map (eL ls)) ov oh) ?_ ?_
  ·(conv=>whnf);exact ⟨_,_,ah.refl _ _,_,0,.aS,[],rfl,by rw [show dz (cD ls) 0=mF from rfl,CI],rfl,by omega,by omega,.inl ⟨by simp,rfl,rfl⟩⟩
  rintro m r h' ⟨t,ov,oh,rfl,rfl,rfl,yl,gf,ho⟩;have bF:=ho;have mL:(((aW (cD ls)).take t).map (eL ls)).length=t:=by rw [List.length_map,List.length_take];omega
  obtain ⟨cur,jq⟩:∃ cur,cur=eT ls (dz (cD ls) t):=⟨_,rfl⟩;have bq:cur.length=ls.length:=by rw [jq,pF]
  have qC:∀ (k:Nat) l,cur[k]?=some l->l.length<=65536:=by
   intro k l hk;rw [jq] at hk;have aP:=(List.getElem?_eq_some_iff.1 hk).1;rw [pF] at aP;obtain ⟨l0,dw⟩:=aF (l:=ls) aP;rw [rK dw] at hk;cases hk
   have:=eu l0 (List.mem_of_getElem? dw);rw [List.length_drop];omega
  rw [<- jq];have fu:((((aW (cD ls)).take t).map (eL ls)).map ch).length=t:=by rw [List.length_map];exact mL
  rcases ho with ⟨eV,rfl,rfl⟩|⟨q,rfl,rfl⟩
  ·have IS:t=0:=by rw [eV] at mL;exact mL.symm
   skip;(conv=>whnf);skip;refine ⟨fun hz=>?_,fun hz=>?_⟩<;>simp at hz
   ·have Ja:t<most:=(by omega);refine bD rfl mixed [0,1,5,6,7] [] (fun m r h=>∃ (i:Nat) (bi:Int),r=[(0,[],.aQ b 0 ls.length 1),(1,[],.int .i64 most),(5,[],.aS),(6,[],.int .i64 bi),(7,[],.int .i64 i)]/\h=(b,.vec (cur.map ck).flatten)::[]/\m=ls.length - i/\i<=ls.length/\eU cur i bi) ?_ ?_
    ·(conv=>whnf);exact ⟨_,_,ah.refl _ _,_,0,-1,rfl,rfl,rfl,by omega,.inl ⟨rfl,fun j l hj=>by omega⟩⟩
    rintro m r h' ⟨i,bi,rfl,rfl,rfl,hi,hb⟩;(conv=>whnf);refine ⟨fun cx=>?_,fun cx=>?_⟩<;>simp at cx
    ·obtain ⟨li,dW⟩:=aF (l:=cur) (i:=i) (by omega);have Jb:=qC i li dW;have wR:-1<=bi/\bi<ls.length:=hb.lt (by omega);obtain ⟨lb,dF⟩:=aF (l:=cur) (i:=bi.toNat) (by omega);have Jc:=qC _ lb dF;(conv=>whnf);repeat ((first|(refine fy (i:=i) (by omega) ?_)|(refine fI gQ (.head _) (by omega) dW ?_)|(refine rG (enc:=ch) [] ?_ ?_;(focus (conv=>whnf;skip));(focus (intro h1 h2;simp only [decide_eq_true_eq,decide_eq_false_iff_not,List.length_map] at h1 h2;first|(show 0<=(0:Int)/\(0:Int)<(li.length:Int);omega)|(show 0<=(0:Int)/\(0:Int)<(lb.length:Int);have:=hb.full (by omega) dF;omega))))|(refine yA ?_ ?_;(focus (conv=>whnf;skip));(focus (intro h1 h2;simp only [decide_eq_true_eq,decide_eq_false_iff_not,List.length_map] at h1 h2;show 0<=bi/\bi<ls.length;omega)))|(refine fI gQ (.head _) (by omega) dF ?_)|refine And.intro (by show aJ (aH Tryz.f50 _) _=true;decide +kernel) ?_);conv=>whnf)
     refine ⟨fun bx=>?_,fun bx=>?_⟩
     ·(conv=>whnf);repeat (refine ⟨ag ⟨by omega,by omega⟩,?_⟩;conv=>whnf)
      (conv=>whnf);skip;exact ⟨_,_,ah.refl _ _,_,(by omega),i+1,i,rfl,rfl,rfl,by omega,(hb.step dW dF).1 (by simp at bx;omega) (by simp at bx;simpa using bx.2)⟩
     (conv=>whnf);repeat (refine ⟨ag ⟨by omega,by omega⟩,?_⟩;conv=>whnf)
     (conv=>whnf);skip;exact ⟨_,_,ah.refl _ _,_,(by omega),i+1,bi,rfl,rfl,rfl,by omega,(hb.step dW dF).2 (by rintro ⟨e1,e2⟩;simp at bx;simp at e2;have:=bx e1;omega)⟩
    obtain rfl:i=ls.length:=by omega
    rw [jq] at hb;rcases hb.end with ⟨rfl,mH⟩|⟨k,pp,rr,l,rfl,dh,ga,ma,iG⟩
    ·have oR:(aW (cD ls)).take t=(aW (cD ls)).take most:=by
      have hle:(aW (cD ls)).length<=t:=by
       rcases Nat.lt_or_ge t (aW (cD ls)).length with e|e
       ·obtain ⟨x,hx⟩:=aF e;rw [kP,mH] at hx;cases hx
       exact e
      rw [List.take_of_length_le hle,List.take_of_length_le (by omega)]
     (conv=>whnf);skip;refine ⟨fun bx=>?_,fun bx=>?_⟩<;>simp at bx
     have dZ:cI ls most=((aW (cD ls)).take t).map (eL ls):=by unfold cI;rw [oR]
     (conv=>whnf);skip;rw [dZ];exact bF.le (by decide)
    have lF:=iG;rw [<- kP] at lF;have yP:k<ls.length:=(List.getElem?_eq_some_iff.1 dh).1;rw [<- jq] at ga;have ea:=qC k _ ga;(conv=>whnf);skip;refine ⟨fun bx=>absurd (of_decide_eq_true bx) (by omega),fun bx=>?_⟩;(conv=>whnf);repeat ((first|(refine fy (i:=k) (by omega) ?_)|(refine fI gQ (.head _) (by omega) ga ?_)|(refine ix (enc:=ch) (i:=0) rfl ?_));conv=>whnf)
    have cd:((aW (cD ls)).take (t+1)).map (eL ls)=((aW (cD ls)).take t).map (eL ls)++[pp]:=by rw [cN lF,List.map_append];refine congrArg (_++[·]) ?_;show (ls.getD k []).getD (dz (cD ls) t k) []=pp;rw [show ls.getD k []=l by rw [List.getD_eq_getElem?_getD,dh];rfl,List.getD_eq_getElem?_getD];have:=congrArg (fun z=>z[0]?) ma;simp only [List.getElem?_drop,Nat.add_zero,List.getElem?_cons_zero] at this;rw [this];rfl
    have wS:cur.set k rr=eT ls (dz (cD ls) (t+1)):=by rw [wK lF,jq,<- yN dh,ma];rfl
    have Jd:t<(aW (cD ls)).length:=(List.getElem?_eq_some_iff.1 lF).1;refine ⟨Nat.le_of_ble_eq_true rfl,fun q2=>?_⟩;(conv=>whnf);repeat ((first|(refine fy (i:=k) (by omega) ?_)|(refine fI gQ (by first|exact .head _|exact .tail _ (.head _)) (by omega) ga ?_)|(refine ⟨ag ⟨by decide,by rw [List.length_map,List.length_cons];omega,Int.le_refl _⟩,?_⟩));conv=>whnf)
    (conv=>whnf);have oS:List.drop (Int.toNat 1) (List.take ((((pp::rr).map ch).length:Int)).toNat ((pp::rr).map ch))=rr.map ch:=by rw [Int.toNat_natCast,List.take_length];rfl
    refine qx (enc:=ck) (L:=cur) rr (by decide) gQ (by rw [bq];exact yP) (by omega) (by unfold ck;rw [<- oS];rfl) (by first|exact .here _|exact .there (.here _)) ?_;(conv=>whnf);skip;exact ⟨_,_,ah.perm (List.Perm.swap _ _ _),_,(by omega),t+1,_,[(q2,.tok)],rfl,(by rw [wS]),rfl,by omega,by omega,.inr ⟨q2,(by rw [cd,eV];rfl),rfl⟩⟩
   have oR:(aW (cD ls)).take t=(aW (cD ls)).take most:=(by rw [show t=most by omega]);have dZ:cI ls most=((aW (cD ls)).take t).map (eL ls):=by unfold cI;rw [oR]
   (conv=>whnf);skip;rw [dZ];exact bF.le (by decide)
  skip;skip;(conv=>whnf);skip;refine ⟨fun hz=>?_,fun hz=>?_⟩<;>simp at hz
  ·have Ja:t<most:=(by omega);refine bD rfl mixed [0,1,5,6,7] [] (fun m r h=>∃ (i:Nat) (bi:Int),r=[(0,[],.aQ b 0 ls.length 1),(1,[],.int .i64 most),(5,[],.sl 1 (some q) ((((aW (cD ls)).take t).map (eL ls)).map ch)),(6,[],.int .i64 bi),(7,[],.int .i64 i)]/\h=(b,.vec (cur.map ck).flatten)::[(q,.tok)]/\m=ls.length - i/\i<=ls.length/\eU cur i bi) ?_ ?_
   ·(conv=>whnf);exact ⟨_,_,ah.refl _ _,_,0,-1,rfl,rfl,rfl,by omega,.inl ⟨rfl,fun j l hj=>by omega⟩⟩
   rintro m r h' ⟨i,bi,rfl,rfl,rfl,hi,hb⟩;(conv=>whnf);refine ⟨fun cx=>?_,fun cx=>?_⟩<;>simp at cx
   ·obtain ⟨li,dW⟩:=aF (l:=cur) (i:=i) (by omega);have Jb:=qC i li dW;have wR:-1<=bi/\bi<ls.length:=hb.lt (by omega);obtain ⟨lb,dF⟩:=aF (l:=cur) (i:=bi.toNat) (by omega);have Jc:=qC _ lb dF;(conv=>whnf);repeat ((first|(refine fy (i:=i) (by omega) ?_)|(refine fI gQ (.head _) (by omega) dW ?_)|(refine rG (enc:=ch) [] ?_ ?_;(focus (conv=>whnf;skip));(focus (intro h1 h2;simp only [decide_eq_true_eq,decide_eq_false_iff_not,List.length_map] at h1 h2;first|(show 0<=(0:Int)/\(0:Int)<(li.length:Int);omega)|(show 0<=(0:Int)/\(0:Int)<(lb.length:Int);have:=hb.full (by omega) dF;omega))))|(refine yA ?_ ?_;(focus (conv=>whnf;skip));(focus (intro h1 h2;simp only [decide_eq_true_eq,decide_eq_false_iff_not,List.length_map] at h1 h2;show 0<=bi/\bi<ls.length;omega)))|(refine fI gQ (.head _) (by omega) dF ?_)|refine And.intro (by show aJ (aH Tryz.f50 _) _=true;decide +kernel) ?_);conv=>whnf)
    refine ⟨fun bx=>?_,fun bx=>?_⟩
    ·(conv=>whnf);repeat (refine ⟨ag ⟨by omega,by omega⟩,?_⟩;conv=>whnf)
     (conv=>whnf);skip;exact ⟨_,_,ah.refl _ _,_,(by omega),i+1,i,rfl,rfl,rfl,by omega,(hb.step dW dF).1 (by simp at bx;omega) (by simp at bx;simpa using bx.2)⟩
    (conv=>whnf);repeat (refine ⟨ag ⟨by omega,by omega⟩,?_⟩;conv=>whnf)
    (conv=>whnf);skip;exact ⟨_,_,ah.refl _ _,_,(by omega),i+1,bi,rfl,rfl,rfl,by omega,(hb.step dW dF).2 (by rintro ⟨e1,e2⟩;simp at bx;simp at e2;have:=bx e1;omega)⟩
   obtain rfl:i=ls.length:=by omega
   rw [jq] at hb;rcases hb.end with ⟨rfl,mH⟩|⟨k,pp,rr,l,rfl,dh,ga,ma,iG⟩
   ·have oR:(aW (cD ls)).take t=(aW (cD ls)).take most:=by
     have hle:(aW (cD ls)).length<=t:=by
      rcases Nat.lt_or_ge t (aW (cD ls)).length with e|e
      ·obtain ⟨x,hx⟩:=aF e;rw [kP,mH] at hx;cases hx
      exact e
     rw [List.take_of_length_le hle,List.take_of_length_le (by omega)]
    (conv=>whnf);skip;refine ⟨fun bx=>?_,fun bx=>?_⟩<;>simp at bx
    have dZ:cI ls most=((aW (cD ls)).take t).map (eL ls):=by unfold cI;rw [oR]
    (conv=>whnf);skip;rw [dZ];exact bF.le (by decide)
   have lF:=iG;rw [<- kP] at lF;have yP:k<ls.length:=(List.getElem?_eq_some_iff.1 dh).1;rw [<- jq] at ga;have ea:=qC k _ ga;(conv=>whnf);skip;refine ⟨fun bx=>absurd (of_decide_eq_true bx) (by omega),fun bx=>?_⟩;(conv=>whnf);repeat ((first|(refine fy (i:=k) (by omega) ?_)|(refine fI gQ (.head _) (by omega) ga ?_)|(refine ix (enc:=ch) (i:=0) rfl ?_));conv=>whnf)
   have cd:((aW (cD ls)).take (t+1)).map (eL ls)=((aW (cD ls)).take t).map (eL ls)++[pp]:=by rw [cN lF,List.map_append];refine congrArg (_++[·]) ?_;show (ls.getD k []).getD (dz (cD ls) t k) []=pp;rw [show ls.getD k []=l by rw [List.getD_eq_getElem?_getD,dh];rfl,List.getD_eq_getElem?_getD];have:=congrArg (fun z=>z[0]?) ma;simp only [List.getElem?_drop,Nat.add_zero,List.getElem?_cons_zero] at this;rw [this];rfl
   have wS:cur.set k rr=eT ls (dz (cD ls) (t+1)):=by rw [wK lF,jq,<- yN dh,ma];rfl
   have Jd:t<(aW (cD ls)).length:=(List.getElem?_eq_some_iff.1 lF).1;refine ⟨(by rw [List.length_append,fu];simp;unfold aN;omega),fun q2=>⟨_,.there (.here _),?_⟩⟩;(conv=>whnf);repeat ((first|(refine fy (i:=k) (by omega) ?_)|(refine fI gQ (by first|exact .head _|exact .tail _ (.head _)) (by omega) ga ?_)|(refine ⟨ag ⟨by decide,by rw [List.length_map,List.length_cons];omega,Int.le_refl _⟩,?_⟩));conv=>whnf)
   (conv=>whnf);have oS:List.drop (Int.toNat 1) (List.take ((((pp::rr).map ch).length:Int)).toNat ((pp::rr).map ch))=rr.map ch:=by rw [Int.toNat_natCast,List.take_length];rfl
   refine qx (enc:=ck) (L:=cur) rr (by decide) gQ (by rw [bq];exact yP) (by omega) (by unfold ck;rw [<- oS];rfl) (by first|exact .here _|exact .there (.here _)) ?_;(conv=>whnf);skip;exact ⟨_,_,ah.refl _ _,_,(by omega),t+1,_,[(q2,.tok)],rfl,(by rw [wS]),rfl,by omega,by omega,.inr ⟨q2,(by rw [cd,List.map_append];rfl),rfl⟩⟩
  have oR:(aW (cD ls)).take t=(aW (cD ls)).take most:=(by rw [show t=most by omega]);have dZ:cI ls most=((aW (cD ls)).take t).map (eL ls):=by unfold cI;rw [oR]
  (conv=>whnf);skip;rw [dZ];exact bF.le (by decide)
 intro v h1 hv;exact ⟨.sl 1 none ((cI ls most).map ch),[],⟨rfl,rfl⟩,hv,fun k o hm=>(by cases hm),fun _=>(by simp [keys])⟩
end Go.Abs.Wall.Lst
