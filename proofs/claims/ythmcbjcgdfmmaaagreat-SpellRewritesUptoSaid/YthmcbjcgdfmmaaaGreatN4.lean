/- Small laws for the walks and contracts of functions; each theorem names its conditions. -/
import Derived.Test.YthmcbjcgdfmmaaaGreatN3
import Derived.Shelf.SlSortCmp.WholeK
import Derived.Test.YthmcbjcgdfmmaaaGreatProg
import Derived.Shelf.SlSortCmp.InsertionK
import Derived.Test.YthmcbjcgdfmmaaaGreatRows
import Derived.WalkKit
import Derived.ProofKit
import Derived.OpenShut
import Derived.JoinedCond
import Derived.ReadAgain
import Derived.ChangeStays
/-
 The abstract fR,part Y: drawn regions in ZG U2 U3 OK made,in U4 order.
-/
namespace Go.Abs
open Go
variable {P:Program} {n:Nat} {X:Nat->Prop} {all:List Oper} {cl ord:List Nat} {r:aC}
def Rz:Op->Bool
 | .call cl=>(match cl.callee with
   | .builtin .append=>(match cl.args.toList with
     | .const (.slice none 0 0)::_=>true
     | _=>false)
   | _=>false)
 | _=>false
def makes (op:Op):Bool:=sC op||Rz op
theorem LB {r:aC} {h:af} {K:AV->af->Prop} {op:Op} (ha:makes op=true) (hq:cy P r h K op):cy P r h (fun v h'=>K v h'/\∃ x,h'=x::h) op:=by
 unfold makes at ha;rw [Bool.or_eq_true] at ha;rcases ha with ha|ha
 ·exact KD ha hq
 unfold Rz at ha;split at ha<;>try contradiction
 rename_i cl;split at ha<;>try contradiction
 rename_i cU;split at ha<;>try contradiction
 rename_i xs jF;simp only [cy,cU] at hq ⊢;split at hq<;>try contradiction
 split at hq<;>try contradiction
 split at hq<;>try contradiction
 split at hq<;>try contradiction
 split at hq<;>try contradiction
 split at hq<;>try contradiction
 split at hq
 ·split at hq<;>try contradiction
  obtain ⟨eH,ys,h1,h2,h3,h4⟩:=hq;exact ⟨eH,ys,h1,h2,h3,fun q=>⟨h4 q,_,rfl⟩⟩
 ·rename_i cR;rw [jF] at cR;unfold bQ at cR;simp only [aL,oE] at cR;split at cR<;>try contradiction
  cases cR
 ·split at hq<;>try contradiction
  exact ⟨hq.1,fun q=>⟨hq.2 q,_,rfl⟩⟩
 ·rename_i cR;rw [jF] at cR;unfold bQ at cR;simp only [aL,oE] at cR;split at cR<;>try contradiction
  cases cR
 ·rename_i cR;rw [jF] at cR;unfold bQ at cR;simp only [aL,oE] at cR;split at cR<;>try contradiction
  cases cR
 ·rename_i cR;rw [jF] at cR;unfold bQ at cR;simp only [aL,oE] at cR;split at cR<;>try contradiction
  cases cR
 ·rename_i cR;rw [jF] at cR;unfold bQ at cR;simp only [aL,oE] at cR;split at cR<;>try contradiction
  cases cR
 ·exact hq.elim
 split at hq<;>try contradiction
 split at hq<;>try contradiction
 split at hq<;>try contradiction
 split at hq<;>try contradiction
 split at hq<;>try contradiction
 split at hq<;>try contradiction
 rename_i cR;rw [jF] at cR;unfold bQ at cR;simp only [aL,oE] at cR;split at cR<;>try contradiction
 cases cR
theorem ZH {r:aC} {h:af} {K:AV->af->Prop} {op:Op} {own jE:List Nat} {d:Option Nat} (ha:makes op=true) (hq:gJ P own jE d r h K op):gJ P own jE d r h (fun v h'=>K v h'/\∃ x,h'=x::h) op:=by
 unfold gJ at hq ⊢;split at hq
 ·split at hq
  ·skip;unfold uS at hq ⊢;revert hq;repeat' split
   all_goals first|exact fun hh=>hh.elim|exact fun hh=>⟨hh.1,fun b=>⟨hh.2 b,_,rfl⟩⟩
  skip;exact LB ha hq
 ·split at hq
  ·skip;unfold uT at hq ⊢;revert hq;repeat' split
   all_goals first|exact fun hh=>hh.elim|exact fun hh b=>⟨hh b,_,rfl⟩
  skip;exact LB ha hq
 exact LB ha hq
theorem gH.swap {kn cr:List Nat} {k i:Nat} (hs:gH all cl (kn++k::i::cr)) (ZI:Nat.testBit (lq cl i) k=false):gH all cl (kn++i::k::cr):=by
 have py:∃ oj,all[i]?=some oj:=by obtain ⟨o2,cg,_⟩:=hs.p4 (kn++[k]) i cr (by simp);exact ⟨o2,cg⟩
 obtain ⟨oj,GS⟩:=py;obtain ⟨o,ho,sN⟩:=hs.p4 kn k (i::cr) rfl
 have RA:∀ e∈oj.after.toList,Region.binds .any e=true->e.on∈kn:=by
  obtain ⟨o2,cg,hh⟩:=hs.p4 (kn++[k]) i cr (by simp);rw [GS] at cg;cases cg
  intro e he hb;have:=hh e he hb;simp only [List.mem_append,List.mem_singleton] at this;rcases this with h|h
  ·exact h
  exfalso;have:Cl cl i k:=by unfold Cl;rw [hs.e2 i _ GS,KH];exact ⟨e,he,hb,.inl h⟩
  unfold Cl at this;rw [ZI] at this;cases this
 refine ⟨hs.e1,hs.e2,?_,?_,?_,hs.n1,hs.d1⟩
 ·intro x hx;have:=hs.p2 x hx;simp only [List.mem_append,List.mem_cons] at this ⊢;rcases this with h|h|h|h
  ·exact .inl h
  ·exact .inr (.inr (.inl h))
  ·exact .inr (.inl h)
  exact .inr (.inr (.inr h))
 ·have:=hs.p3;simp only [List.nodup_append,List.nodup_cons,List.mem_cons] at this ⊢;obtain ⟨u1,⟨u2,u3,u4⟩,u5⟩:=this;refine ⟨u1,⟨?_,?_,u4⟩,?_⟩
  ·rintro (e|e)
   ·exact u2 (.inl e.symm)
   exact u3 e
  ·exact fun e=>u2 (.inr e)
  intro x hx y hy;rcases hy with e|e|e
  ·exact u5 x hx y (.inr (.inl e))
  ·exact u5 x hx y (.inl e)
  exact u5 x hx y (.inr (.inr e))
 intro pre x post ZJ;rcases List.append_eq_append_iff.1 ZJ with ⟨a',e1,e2⟩|⟨c',e1,e2⟩
 ·cases a' with
  | nil=>
    cases e2
    exact ⟨oj,GS,fun e he hb=>by rw [e1];simpa using RA e he hb⟩
  | cons z a'=>
    cases a' with
    | nil=>
      cases e2
      exact ⟨o,ho,fun e he hb=>by rw [e1];simp [sN e he hb]⟩
    | cons z2 a'=>
      injection e2 with e3 e4;injection e4 with e5 e6;obtain ⟨o2,cg,hh⟩:=hs.p4 (kn++k::i::a') x post (by rw [e6];simp);refine ⟨o2,cg,fun e he hb=>?_⟩;have:=hh e he hb;rw [e1,<- e3,<- e5];simp only [List.mem_append,List.mem_cons] at this ⊢;rcases this with h|h|h|h
      ·exact .inl h
      ·exact .inr (.inr (.inl h))
      ·exact .inr (.inl h)
      exact .inr (.inr (.inr h))
 cases c' with
 | nil=>
   simp at e2;obtain ⟨e3,e4⟩:=e2;subst e3;exact ⟨oj,GS,fun e he hb=>by have:=RA e he hb;rw [e1] at this;simpa using this⟩
 | cons z c'=>
   simp at e2;obtain ⟨e3,e4⟩:=e2;subst e3;exact hs.p4 pre x (c'++k::i::cr) (by rw [e1];simp)
theorem ZK {own jE:List Nat} {K:aC->af->Prop} {Rg:List Nat->List Nat->aC->af->Prop} {Q:Exit->Act->World->Prop} (hs:gH all cl ord) {fuel i:Nat} {rest kn nf:List Nat} {aj:List (Nat × Nat × G × AV)} {h:af} {L:Array Bool} {g0:Gh} {a:Act} {w:World} {o:Oper}
  (hi:iz n P all cl ord r kn (i::rest) nf aj h L) (ho:all[i]?=some o) (zB:all.toArray[i]?=some o) (fE:o.guard=none) (RB:(makes o.op||(calm (bG aj r) o.op&&uV cl all i nf))=true) (ea:L.getD i false=false)
  (he:∀ e∈o.after.toList,Region.binds .any e=true->L.getD e.on false=true)
  (hr:gJ P own jE o.dst (bG aj r) h (fun v h'=>fS n o.dst [] v (bG aj r) fun r'=>Rg rest nf r' h') o.op) (hc:bK n X g0 (bG (dC L aj) r) h a w) (hu:pN all.length L<=fuel+1)
  (IH:∀ (rest kn nf:List Nat) (aj:List (Nat × Nat × G × AV)) (h:af) (L:Array Bool) (g0:Gh) (a:Act) (w:World),
    iz n P all cl ord r kn rest nf aj h L->Rg rest nf (bG aj r) h->bK n X g0 (bG (dC L aj) r) h a w->pN all.length L<=fuel ->
    (∀ r' h' g' a' w',K r' h'->bK n X g' r' h' a' w'->Step X g0 h w g' h' w'->Q .normal a' w')->wpAny P .any all.toArray Q fuel L a w)
  (hf:∀ r' h' g' a' w',K r' h'->bK n X g' r' h' a' w'->Step X g0 h w g' h' w'->Q .normal a' w') :
  wpOp P all.toArray Q i (wpAny P .any all.toArray Q fuel (L.setIfInBounds i true)) a w:=by
 have mm:i∈ord:=by rw [hi.split];simp
 have jz:i ∉ kn:=by have:=hs.p3;rw [hi.split,List.nodup_append] at this;exact fun hm=>this.2.2 i hm i (by simp) rfl
 obtain ⟨aP,_⟩:=hi.lt hs mm;have oe:i<all.length:=by rw [<- hi.kD];exact aP
 have jk:=ea;have sN:∀ e∈o.after.toList,Region.binds .any e=true->e.on∈kn:=by obtain ⟨o2,cg,hh⟩:=hs.p4 kn i rest hi.split;rw [ho] at cg;cases cg;exact hh
 have tB:∀ j,Cl cl i j->j∈kn:=by
  intro j hj
  have:=(tz hs (S:=fun x=>x∈kn\/x=i) (fun x hS=>by
   rcases hS with hS|rfl
   ·obtain ⟨o',bF,hh⟩:=hi.DE hs x hS;exact ⟨o',bF,fun e a b=>.inl (hh e a b)⟩
   exact ⟨o,ho,fun e a b=>.inl (sN e a b)⟩) i (.inr rfl) j hj)
  rcases this.1 with h|rfl
  ·exact h
  exact absurd this.2 (Nat.lt_irrefl _)
 have qU:∀ t∈jg all o,ml all cl aj r i t (bl (bG aj r) t):=by intro t ht;refine zz hi hs ho (fun x hx=>hx) (fun j hj=>⟨tB j hj,fun x hx _=>hx⟩) ?_ t ht;intro x hx jK;exact jz (hi.qS hs (hi.gI x hx).1 jK).1
 have rX:∀ j,Cl cl i j->L.getD j false=true:=by
  intro j hj
  have:=(tz hs (S:=fun x=>L.getD x false=true\/x=i) (fun x hS=>by
   rcases hS with hS|rfl
   ·obtain ⟨o',bF,hh⟩:=hi.tA x hS;exact ⟨o',bF,fun e a b=>.inl (hh e a b)⟩
   exact ⟨o,ho,fun e a b=>.inl (he e a b)⟩) i (.inr rfl) j hj)
  rcases this.1 with h|rfl
  ·exact h
  exact absurd this.2 (Nat.lt_irrefl _)
 unfold wpOp;simp only [zB,FP fE,if_true];left;have iy:∀ j,Cl cl i j->Cl cl j i->False:=fun j a b=>jz (hi.qS hs (tB j a) b).1
 have KT:∀ t∈ru o.op.operands.toList,bl (bG aj r) t=bl (bG (dC L aj) r) t:=by
  intro t ht;have DM:t∈jg all o:=by unfold jg;exact List.mem_append_right _ ht
  refine KK hi hs (qU t DM) (zz hi hs ho (fun x hx=>(pM.1 hx).1) ?_ ?_ t DM) iy
  ·intro j hj;exact ⟨tB j hj,fun x hx DI=>pM.2 ⟨hx,by rw [DI];exact rX j hj⟩⟩
  intro x hx jK;exact jz (hi.qS hs (hi.gI x (pM.1 hx).1).1 jK).1
 -- the heap behind it
 have vC:gJ P own jE o.dst (bG (dC L aj) r) h (fun v h'=>(fS n o.dst [] v (bG aj r) fun r'=>Rg rest nf r' h')/\(makes o.op=true->∃ x,h'=x::h)/\(calm (bG aj r) o.op=true->Kept h h')) o.op:=by
  have kF:gJ P own jE o.dst (bG aj r) h (fun v h'=>(fS n o.dst [] v (bG aj r) fun r'=>Rg rest nf r' h')/\(calm (bG aj r) o.op=true->Kept h h')) o.op:=by
   by_cases fL:calm (bG aj r) o.op=true
   ·exact od (fun v h' hh=>⟨hh.1,fun _=>hh.2⟩) (QE fL hr)
   exact od (fun v h' hh=>⟨hh,fun hy=>absurd hy fL⟩) hr
  have qI:=Qr KT kF;by_cases il:makes o.op=true
  ·have:=ZH il qI;exact od (fun v h' hh=>⟨hh.1.1,fun _=>hh.2,hh.1.2⟩) this
  exact od (fun v h' hh=>⟨hh.1,fun hy=>absurd hy il,hh.2⟩) qI
 refine JF vC hc ?_;rintro v h' g' u w' ⟨ju,hx,uJ⟩ dH cJ ax
 have DN:∀ k'∈kn,(L.setIfInBounds i true).getD k' false=false->∃ o g v Rk,all[k']?=some o/\dS P all Rk h' (fun g' v'=>g'=g/\v'=v) o /\
   (∀ t∈jg all o,ml all cl aj r k' t (bl Rk t)) /\
   (∀ d,o.dst=some d->(k',d,g,v)∈aj/\d<n/\(∀ e∈g,e.1≠d)/\∀ t gg v,bl r t=some (gg,v)->∀ e∈gg,e.1≠d) /\
   (k' ∉ nf->∀ h',dS P all Rk h' (fun g' v'=>g'=g/\v'=v) o):=by
  intro k' bn dR
  have hl:L.getD k' false=false:=by
   cases hb:L.getD k' false with
   | false=>rfl
   | true=>rw [getD_set_true hb] at dR;cases dR
  obtain ⟨o',g2,v2,Rk,q1,q2,q3,q4,q5⟩:=hi.fact k' bn hl;refine ⟨o',g2,v2,Rk,q1,?_,q3,q4,q5⟩;by_cases il:makes o.op=true
  ·obtain ⟨x,rfl⟩:=hx il;exact Gw (fun g K hh=>Qq hh) q2
  rw [Bool.or_eq_true] at RB;have uG:=RB.resolve_left il;rw [Bool.and_eq_true] at uG;by_cases xC:k'∈nf
  ·rcases Gz uG.2 k' xC with h1|⟨o2,h1,h2⟩
   ·have:=rX k' h1;rw [hl] at this;cases this
   rw [q1] at h1;cases h1
   exact Gw (fun g K hh=>QC h2 (uJ uG.1) hh) q2
  exact q5 xC h'
 have DO:∀ {p:Prop},(L.setIfInBounds i true).getD i false=false->p:=by intro p hh;have:(L.setIfInBounds i true).getD i false=true:=(by simp [aP]);rw [this] at hh;cases hh
 have AH:∀ r2 h2 g2 a2 w2,K r2 h2->bK n X g2 r2 h2 a2 w2->Step X g' h' w' g2 h2 w2->Q .normal a2 w2:=
  fun r2 h2 g2 a2 w2 hK cQ mQ=>hf r2 h2 g2 a2 w2 hK cQ (ax.trans hc.cw.own mQ)
 have tm:pN all.length (L.setIfInBounds i true)<=fuel:=by have:=DH oe hi.kD.symm jk;omega
 cases hd:o.dst with
 | none=>
   rw [hd] at ju;have dT:=hi.enter (n:=n) (P:=P) (g:=[]) (v:=v) (eF:=aj) (qT:=nf) (h':=h') (L':=L.setIfInBounds i true) hs ho (by rw [hd]) (by simp) (.inr ⟨rfl,he⟩) DN DO;refine IH rest _ nf aj h' _ g' _ w' dT ju ?_ tm AH;have hE:dC (L.setIfInBounds i true) aj=dC L aj:=by unfold dC;refine List.filter_congr fun x hx=>?_;exact getD_set_ne false (fun e=>jz (e ▸ (hi.gI x hx).1))
   rw [hE];simpa [Act.put] using hc.step dH ax
 | some d=>
   rw [hd] at ju;unfold fS at ju;simp only at ju;split at ju<;>try contradiction
   rename_i pO;rw [Nat.blt_eq] at pO;split at ju<;>try contradiction
   rename_i qH;have mX:=Bd (xh qH).2;have dT:=hi.enter (n:=n) (P:=P) (g:=[]) (v:=v) (eF:=(i,d,[],v)::aj) (qT:=nf) (h':=h') (L':=L.setIfInBounds i true) hs ho (by rw [hd]) (by simp) (.inr ⟨rfl,he⟩) DN DO;refine IH rest _ nf ((i,d,[],v)::aj) h' _ g' _ w' dT ju ?_ tm AH;have hE:dC (L.setIfInBounds i true) ((i,d,[],v)::aj)=(i,d,[],v)::dC L aj:=by unfold dC;have h1:(L.setIfInBounds i true).getD i false=true:=(by simp [aP]);rw [List.filter_cons,if_pos h1];congr 1;refine List.filter_congr fun x hx=>?_;exact getD_set_ne false (fun e=>jz (e ▸ (hi.gI x hx).1))
   rw [hE];show bK n X g' ((d,[],v)::bG (dC L aj) r) h' (a.put (some d) u) w';refine hc.KM dH ax pO (by simp) ?_ (fun _=>⟨by simp,cJ⟩) (fun hh=>absurd (fun e he=>by cases he) hh);intro t gg vv hl e rQ xB;rcases KN hl with ⟨x,hx,ex⟩|hl
   ·obtain ⟨hx,jR⟩:=pM.1 hx;have jK:=hi.path x hx e (by rw [ex];exact rQ) i o ho (xB ▸ hd);exact jz (hi.qS hs (hi.gI x hx).1 jK).1
   exact zb mX hl e rQ xB
def Ec (cl:List Nat) (q:Nat):List Nat->Bool
 | []=>true
 | x::l=>match Nat.testBit (lq cl q) x with
   | true=>false
   | false=>Ec cl q l
def GU (cl:List Nat) (q:Nat):List Nat->Bool
 | []=>false
 | x::l=>match Nat.testBit (lq cl q) x with
   | true=>true
   | false=>GU cl q l
def Ed (cl ms:List Nat):List Nat->Bool
 | []=>true
 | q::l=>match GU cl q ms with
   | true=>Ed cl ms l
   | false=>false
def Ee (cl ms:List Nat):List Nat->Bool
 | []=>true
 | m::l=>match Ec cl m ms with
   | true=>Ee cl ms l
   | false=>false
def Bn (cl:List Nat):List Nat->List Nat->Option (Nat × List Nat)
 | _,[]=>none
 | zN,q::l=>match Ec cl q zN with
   | true=>some (q,l)
   | false=>match Bn cl (q::zN) l with
     | some (x,l')=>some (x,q::l')
     | none=>none
def xM (m:Nat):List Nat->List Nat
 | []=>[]
 | x::l=>match Nat.beq x m with
   | true=>l
   | false=>x::xM m l
def Bo (G:Nat->Prop):List Nat->Prop
 | []=>True
 | m::l=>G m/\Bo G l
theorem LC {cl:List Nat} {q:Nat}:∀ {l:List Nat},Ec cl q l=true->∀ x∈l,Nat.testBit (lq cl q) x=false
 | [],_,x,hx=>by cases hx
 | y::l,h,x,hx=>by
   unfold Ec at h;split at h
   ·cases h
   rename_i hy;rcases List.mem_cons.1 hx with rfl|hx
   ·exact hy
   exact LC h x hx
theorem RC {cl:List Nat} {q:Nat}:∀ {l:List Nat},GU cl q l=true->∃ x∈l,Cl cl q x
 | [],h=>by cases h
 | y::l,h=>by
   unfold GU at h;split at h
   ·rename_i hy;exact ⟨y,by simp,hy⟩
   obtain ⟨x,h1,h2⟩:=RC h;exact ⟨x,by simp [h1],h2⟩
theorem RD {cl ms:List Nat}:∀ {l:List Nat},Ed cl ms l=true->∀ q∈l,∃ x∈ms,Cl cl q x
 | [],_,q,hq=>by cases hq
 | y::l,h,q,hq=>by
   unfold Ed at h;split at h
   ·rename_i hy;rcases List.mem_cons.1 hq with rfl|hq
    ·exact RC hy
    exact RD h q hq
   cases h
theorem RE {cl ms:List Nat}:∀ {l:List Nat},Ee cl ms l=true->∀ m∈l,∀ x∈ms,Nat.testBit (lq cl m) x=false
 | [],_,m,hm=>by cases hm
 | y::l,h,m,hm=>by
   unfold Ee at h;split at h
   ·rename_i hy;rcases List.mem_cons.1 hm with rfl|hm
    ·exact LC hy
    exact RE h m hm
   cases h
theorem RF {cl:List Nat} {q:Nat}:∀ {l zN l2:List Nat},Bn cl zN l=some (q,l2)->∃ b c,l=b++q::c/\l2=b++c/\(∀ x∈zN,Nat.testBit (lq cl q) x=false)/\∀ x∈b,Nat.testBit (lq cl q) x=false
 | [],zN,l2,h=>by cases h
 | y::l,zN,l2,h=>by
   unfold Bn at h;split at h
   ·rename_i hy;cases h
    exact ⟨[],l,rfl,rfl,LC hy,by simp⟩
   split at h
   ·rename_i x l' hx;cases h
    obtain ⟨b,c,rfl,rfl,h3,h4⟩:=RF hx;refine ⟨y::b,c,rfl,rfl,fun z hz=>h3 z (by simp [hz]),fun z hz=>?_⟩;rcases List.mem_cons.1 hz with rfl|hz
    ·exact h3 _ (by simp)
    exact h4 z hz
   cases h
theorem RG {m:Nat}:∀ {ms:List Nat},m∈ms->∃ a b,ms=a++m::b/\xM m ms=a++b
 | [],h=>by cases h
 | x::l,h=>by
   unfold xM;split
   ·rename_i hx;have:=Nat.eq_of_beq_eq_true hx;subst this;exact ⟨[],l,rfl,rfl⟩
   rename_i hx;rcases List.mem_cons.1 h with rfl|h
   ·rw [Nat.beq_refl] at hx;cases hx
   obtain ⟨a,b,e1,e2⟩:=RG h;exact ⟨x::a,b,by rw [e1];rfl,by rw [e2];rfl⟩
theorem RH {G:Nat->Prop}:∀ {l:List Nat},Bo G l->∀ m∈l,G m
 | [],_,m,hm=>by cases hm
 | y::l,h,m,hm=>by
   rcases List.mem_cons.1 hm with rfl|hm
   ·exact h.1
   exact RH h.2 m hm
theorem RI {G G':Nat->Prop} (hg:∀ m,G m->G' m):∀ {l:List Nat},Bo G l->Bo G' l
 | [],_=>trivial
 | y::l,h=>⟨hg _ h.1,RI hg h.2⟩
theorem gH.front {i:Nat} {post:List Nat}:∀ {a kn:List Nat},gH all cl (kn++(a++i::post))->(∀ x∈a,Nat.testBit (lq cl i) x=false)->gH all cl (kn++(i::(a++post)))
 | [],kn,hs,_=>hs
 | x::a,kn,hs,h=>by have h1:gH all cl ((kn++[x])++(i::(a++post))):=gH.front (a:=a) (kn:=kn++[x]) (by simpa using hs) (fun y hy=>h y (by simp [hy]));have h2:gH all cl (kn++x::i::(a++post)):=(by simpa using h1);exact gH.swap h2 (h x (by simp))
def xN (P:Program) (c:av) (n:Nat) (all:List Oper) (cl:List Nat) (K:aC->af->Prop):Nat->List Nat->List Nat->List Nat->aC->af->Prop
 | 0,_,_,_,_,_=>False
 | f+1,ms,rest,nf,r,h=>match ms with
   | []=>sD P c n all cl K rest nf r h
   | m0::fQ=>match Bn cl (m0::fQ) rest with
     | some (q,zO)=>(match all[q]? with
       | none=>False
       | some o=>match Ah c o with
         | true=>xN P c n all cl K f (q::m0::fQ) zO nf r h
         | false=>dS P all r h (fun g v=>match yi cl all q g with
           | true=>fS n o.dst g v r fun r'=>xN P c n all cl K f (m0::fQ) zO (match rv r g o.op with|true=>nf|false=>q::nf) r' h
           | false=>False) o)
     | none=>(Ee cl (m0::fQ) (m0::fQ)&&Ed cl (m0::fQ) rest)=true/\Bo (fun m=>match all[m]? with
       | none=>False
       | some o=>(o.guard.isNone&&(makes o.op||(calm r o.op&&uV cl all m nf)))=true/\gJ P c.own c.lc o.dst r h (fun v h'=>fS n o.dst [] v r fun r'=>xN P c n all cl K f (xM m (m0::fQ)) rest nf r' h') o.op) (m0::fQ)
theorem ZL {c:av} {K:aC->af->Prop} {Q:Exit->Act->World->Prop}:∀ (fuel f:Nat) (ord ms rest kn nf:List Nat) (aj:List (Nat × Nat × G × AV)) (h:af) (L:Array Bool) (g0:Gh) (a:Act) (w:World),gH all cl ord ->
  iz n P all cl ord r kn (ms++rest) nf aj h L->xN P c n all cl K f ms rest nf (bG aj r) h->bK n X g0 (bG (dC L aj) r) h a w->pN all.length L<=fuel ->
  (∀ r' h' g' a' w',K r' h'->bK n X g' r' h' a' w'->Step X g0 h w g' h' w'->Q .normal a' w')->wpAny P .any all.toArray Q fuel L a w:=by
 intro fuel;induction fuel with
 | zero=>
   intro f ord ms rest kn nf aj h L g0 a w hs hi hr hc hu hf;have xt:=Qy (Nat.le_zero.1 hu);cases f with
   | zero=>exact hr.elim
   | succ f=>
   cases ms with
   | nil=>exact KR hs 0 rest kn nf aj h L g0 a w hi hr hc hu hf
   | cons x ms=>
     have hx:x∈ord:=by rw [hi.split];simp
     obtain ⟨aP,_⟩:=hi.lt hs hx;have h1:=hi.qR x (xt x (by rw [<- hi.kD];exact aP));have:=hs.p3;rw [hi.split,List.nodup_append] at this;exact absurd rfl (this.2.2 x h1 x (by simp))
 | succ fuel IH=>
   intro f;induction f with
   | zero=>intro ord ms rest kn nf aj h L g0 a w hs hi hr;exact hr.elim
   | succ f vU=>
     intro ord ms rest kn nf aj h L g0 a w hs hi hr hc hu hf;cases ms with
     | nil=>exact KR hs (fuel+1) rest kn nf aj h L g0 a w hi hr hc hu hf
     | cons m0 fQ=>
     have kF:=hr;unfold xN at hr;simp only at hr;split at hr
     · -- a quiet one,brought to the front
      rename_i k zO ZM;obtain ⟨b,c2,rfl,rfl,Aj,BO⟩:=RF ZM
      have ly:gH all cl (kn++(k::(((m0::fQ)++b)++c2))):=gH.front (by have:=hs;rw [hi.split] at this;simpa using this) (fun x hx=>by
       rcases List.mem_append.1 hx with hx|hx
       ·exact Aj x hx
       exact BO x hx)
      have hi:iz n P all cl (kn++(k::(((m0::fQ)++b)++c2))) r kn (k::(((m0::fQ)++b)++c2)) nf aj h L:=⟨rfl,hi.kD,hi.qR,hi.tA,hi.gI,hi.zy,hi.DD,hi.path,hi.fact⟩;have hs:=ly;have mm:k∈kn++(k::(((m0::fQ)++b)++c2)):=(by simp);have jz:k ∉ kn:=by have:=hs.p3;rw [List.nodup_append] at this;exact fun hm=>this.2.2 k hm k (by simp) rfl
      obtain ⟨aP,o,ho⟩:=hi.lt hs mm
      have ea:L.getD k false=false:=by
       cases hb:L.getD k false with
       | false=>rfl
       | true=>exact absurd (hi.qR k hb) jz
      have sN:∀ e∈o.after.toList,Region.binds .any e=true->e.on∈kn:=by obtain ⟨o2,cg,hh⟩:=hs.p4 kn k _ hi.split;rw [ho] at cg;cases cg;exact hh
      have tB:∀ j,Cl cl k j->j∈kn:=by
       intro j hj
       have:=(tz hs (S:=fun i=>i∈kn\/i=k) (fun i hS=>by
        rcases hS with hS|rfl
        ·obtain ⟨o',bF,hh⟩:=hi.DE hs i hS;exact ⟨o',bF,fun e a b=>.inl (hh e a b)⟩
        exact ⟨o,ho,fun e a b=>.inl (sN e a b)⟩) k (.inr rfl) j hj)
       rcases this.1 with h|rfl
       ·exact h
       exact absurd this.2 (Nat.lt_irrefl _)
      have qU:∀ t∈jg all o,ml all cl aj r k t (bl (bG aj r) t):=by intro t ht;refine zz hi hs ho (fun x hx=>hx) (fun j hj=>⟨tB j hj,fun x hx _=>hx⟩) ?_ t ht;intro x hx jK;exact jz (hi.qS hs (hi.gI x hx).1 jK).1
      have e0:(((m0::fQ)++b)++c2)=(m0::fQ)++(b++c2):=(by simp);rw [e0] at hi hs;rw [ho] at hr;simp only at hr;split at hr
      ·exact vU _ (k::m0::fQ) (b++c2) kn nf aj h L g0 a w hs hi hr hc hu hf
      obtain ⟨g,v,gr,hE⟩:=KE hr;split at gr<;>try contradiction
      rename_i jO;have jO:=Gy jO;obtain ⟨jA,pP⟩:∃ jA,jA=(match rv (bG aj r) g o.op with|true=>nf|false=>k::nf):=⟨_,rfl⟩
      have xD:k ∉ jA->∀ h',dS P all (bG aj r) h' (fun g' v'=>g'=g/\v'=v) o:=by
       intro bn h';rw [pP] at bn;split at bn
       ·rename_i DP;exact KG DP hE
       simp at bn
      have DQ:∀ x∈nf,x∈jA:=by
       intro x hx;rw [pP];split
       ·exact hx
       exact List.mem_cons_of_mem _ hx
      have hold:∀ k'∈kn,L.getD k' false=false->∃ o g v Rk,all[k']?=some o/\dS P all Rk h (fun g' v'=>g'=g/\v'=v) o /\
          (∀ t∈jg all o,ml all cl aj r k' t (bl Rk t)) /\
          (∀ d,o.dst=some d->(k',d,g,v)∈aj/\d<n/\(∀ e∈g,e.1≠d)/\∀ t gg v,bl r t=some (gg,v)->∀ e∈gg,e.1≠d) /\
          (k' ∉ jA->∀ h',dS P all Rk h' (fun g' v'=>g'=g/\v'=v) o):=by
       intro k' bn dR;obtain ⟨o',g2,v2,Rk,q1,q2,q3,q4,q5⟩:=hi.fact k' bn dR;exact ⟨o',g2,v2,Rk,q1,q2,q3,q4,fun hh=>q5 fun hm=>hh (DQ _ hm)⟩
      cases hd:o.dst with
      | none=>
        rw [hd] at gr
        have dT:=hi.enter (n:=n) (P:=P) (g:=g) (v:=v) (eF:=aj) (qT:=jA) (h':=h) (L':=L) hs ho (by rw [hd]) jO (.inl rfl) hold
         (fun _=>⟨o,g,v,bG aj r,ho,hE,qU,fun d db=>(by rw [hd] at db;cases db),xD⟩)
        exact vU _ _ _ _ _ aj h L g0 a w hs dT (by rw [pP];exact gr) hc hu hf
      | some d=>
        rw [hd] at gr;unfold fS at gr;simp only at gr;split at gr<;>try contradiction
        rename_i pO;rw [Nat.blt_eq] at pO;split at gr<;>try contradiction
        rename_i qH;obtain ⟨gO,dN⟩:=xh qH;have mX:=Bd dN
        have dT:=hi.enter (n:=n) (P:=P) (g:=g) (v:=v) (eF:=(k,d,g,v)::aj) (qT:=jA) (h':=h) (L':=L) hs ho (by rw [hd]) jO (.inl rfl) hold
         (fun _=>⟨o,g,v,bG aj r,ho,hE,fun t ht=>(qU t ht).more (fun x hx=>List.mem_cons_of_mem _ hx),
           fun d' db=>(by rw [hd] at db;cases db;exact ⟨List.mem_cons_self,pO,gO,fun t gg vv hl=>zb mX hl⟩),xD⟩)
        refine vU _ _ _ _ _ ((k,d,g,v)::aj) h L g0 a w hs dT (by rw [pP];exact gr) ?_ hu hf;have hE:dC L ((k,d,g,v)::aj)=dC L aj:=by unfold dC;rw [List.filter_cons,if_neg (by simp only [ea];exact Bool.false_ne_true)]
        rw [hE];exact hc
     -- those that OK made
     obtain ⟨LD,hE⟩:=hr;simp only [Bool.and_eq_true] at LD;have th:=RE LD.1;have DK:=RD LD.2;have mP:m0 ∉ kn:=by have:=hs.p3;rw [hi.split,List.nodup_append] at this;exact fun hm=>this.2.2 m0 hm m0 (by simp) rfl
     refine ⟨fun DJ=>?_,fun i hm=>?_⟩
     ·have:=KO hi hs DJ m0 (by rw [hi.split];simp);exact absurd (hi.qR m0 this) mP
     obtain ⟨m1,LF,zB,m2⟩:=mem_ready.1 hm;have qV:all[i]?=some LF:=(by simpa using zB);have oe:i<all.length:=(List.getElem?_eq_some_iff.1 qV).1;have jk:L.getD i false=false:=by rw [<- DG (by rw [hi.kD];exact oe)];exact m1
     have he:∀ e∈LF.after.toList,Region.binds .any e=true->L.getD e.on false=true:=fun e he hb=>m2 e (by simpa using he) hb
     have rX:∀ j,Cl cl i j->L.getD j false=true:=by
      intro j hj
      have:=(tz hs (S:=fun x=>L.getD x false=true\/x=i) (fun x hS=>by
       rcases hS with hS|rfl
       ·obtain ⟨o',bF,hh⟩:=hi.tA x hS;exact ⟨o',bF,fun e a b=>.inl (hh e a b)⟩
       exact ⟨LF,qV,fun e a b=>.inl (he e a b)⟩) i (.inr rfl) j hj)
      rcases this.1 with h|rfl
      ·exact h
      exact absurd this.2 (Nat.lt_irrefl _)
     have cH:i∈kn\/i∈m0::fQ\/i∈rest:=by have:=hs.p2 i oe;rw [hi.split] at this;simpa [or_assoc] using this
     rcases cH with py|LG|KS
     ·refine KQ hi hs py jk (fun o2 cg=>by rw [qV] at cg;cases cg;exact he) hc ?_;intro g' a' w' bN ax
      exact IH (f+1) ord (m0::fQ) rest kn nf aj h _ g' a' w' hs (hi.list py qV he) kF bN (by have:=DH oe hi.kD.symm jk;omega)
       (fun r2 h2 g2 a2 w2 hK cQ mQ=>hf r2 h2 g2 a2 w2 hK cQ (ax.trans hc.cw.own mQ))
     ·have hA:=RH hE i LG;rw [qV] at hA;simp only at hA;rw [Bool.and_eq_true,Option.isNone_iff_eq_none] at hA;obtain ⟨⟨ZN,ZO⟩,hA⟩:=hA;obtain ⟨a1,b1,e1,e2⟩:=RG LG;have ly:gH all cl (kn++(i::(a1++(b1++rest)))):=gH.front (by have:=hs;rw [hi.split,e1] at this;simpa using this) (fun x hx=>th i LG x (by rw [e1];simp [hx]));have dT:iz n P all cl (kn++(i::(a1++(b1++rest)))) r kn (i::(a1++(b1++rest))) nf aj h L:=⟨rfl,hi.kD,hi.qR,hi.tA,hi.gI,hi.zy,hi.DD,hi.path,hi.fact⟩
      refine ZK (Rg:=fun l nf r' h'=>l=xM i (m0::fQ)++rest/\xN P c n all cl K f (xM i (m0::fQ)) rest nf r' h') ly dT qV zB ZN ZO jk he
       (od (fun v h'=>rY fun r' hh=>⟨by rw [e2];simp,hh⟩) hA) hc hu ?_ hf
      rintro cr kn nf aj h L g0 a w aG ⟨rfl,vC⟩ cQ mB ZP;exact IH f _ (xM i (m0::fQ)) rest kn nf aj h L g0 a w ly aG vC cQ mB ZP
     obtain ⟨x,hx,jK⟩:=DK i KS;have h1:=rX x jK;have h2:=hi.qR x h1;have:=hs.p3;rw [hi.split,List.nodup_append] at this;exact absurd rfl (this.2.2 x h2 x (List.mem_append_left _ hx))
def Bp (P:Program) (c:av) (n:Nat) (all:List Oper) (K:aC->af->Prop):Nat->List Nat->List Nat->List Nat->aC->af->Prop
 | 0,_,_,_,_,_=>False
 | f+1,ms,rest,nf,r,h=>match ms with
   | []=>vX P c n all K rest nf r h
   | m0::fQ=>match Bn (iS all []) (m0::fQ) rest with
     | some (q,zO)=>(match all[q]? with
       | none=>False
       | some o=>match Ah c o with
         | true=>Bp P c n all K f (q::m0::fQ) zO nf r h
         | false=>dS P all r h (zF (fun nf r h=>Bp P c n all K f (m0::fQ) zO nf r h) all q n o nf r h) o)
     | none=>(Ee (iS all []) (m0::fQ) (m0::fQ)&&Ed (iS all []) (m0::fQ) rest)=true/\Bo (fun m=>match all[m]? with
       | none=>False
       | some o=>(o.guard.isNone&&(makes o.op||(calm r o.op&&uV (iS all []) all m nf)))=true/\gJ P c.own c.lc o.dst r h (vW (Bp P c n all K f (xM m (m0::fQ)) rest nf) n o.dst r) o.op) (m0::fQ)
theorem GV {c:av} {K:aC->af->Prop}:∀ {f:Nat} {ms rest nf:List Nat} {r:aC} {h:af},Bp P c n all K f ms rest nf r h->xN P c n all (iS all []) K f ms rest nf r h
 | 0,ms,rest,nf,r,h,hh=>hh.elim
 | f+1,ms,rest,nf,r,h,hh=>by
   unfold Bp at hh;unfold xN;cases ms with
   | nil=>exact Bf (fun _ _ h=>h) hh
   | cons m0 fQ=>
     simp only at hh ⊢;cases hp:Bn (iS all []) (m0::fQ) rest with
     | some x=>
       obtain ⟨q,zO⟩:=x;rw [hp] at hh;simp only at hh ⊢;cases ho:all[q]? with
       | none=>rw [ho] at hh;exact hh.elim
       | some o=>
         rw [ho] at hh;simp only at hh ⊢;cases hl:Ah c o with
         | true=>rw [hl] at hh;exact GV hh
         | false=>
           rw [hl] at hh;simp only at hh ⊢;refine Ld (fun g v hv=>?_) hh;unfold zF at hv;cases hp:yi (iS all []) all q g with
           | false=>rw [hp] at hv;exact hv.elim
           | true=>
             rw [hp] at hv;exact rY (fun _=>GV) hv
     | none=>
       rw [hp] at hh;simp only at hh ⊢;refine ⟨hh.1,RI (fun m hm=>?_) hh.2⟩;cases ho:all[m]? with
       | none=>rw [ho] at hm;exact hm.elim
       | some o=>
         rw [ho] at hm;exact ⟨hm.1,od (fun v h'=>GD fun _ _=>GV) hm.2⟩
def GW (P:Program) (c:av) (n:Nat) (all:List Oper) (K:aC->af->Prop) (ms post:List Nat):List Nat->List Nat->aC->af->Prop
 | [],nf,r,h=>Bp P c n all K 100 ms post nf r h
 | i::pre,nf,r,h=>match all[i]? with
   | none=>False
   | some o=>match Ah c o with
     | true=>False
     | false=>dS P all r h (zF (GW P c n all K ms post pre) all i n o nf r h) o
theorem ZQ {c:av} {K:aC->af->Prop} {Q:Exit->Act->World->Prop} {ms post:List Nat} {fuel:Nat} {g0:Gh} {a:Act} {w:World} {L:Array Bool} (hs:gH all (iS all []) ord):∀ (pre kn nf:List Nat) (aj:List (Nat × Nat × G × AV)) (h:af),
  iz n P all (iS all []) ord r kn (pre++(ms++post)) nf aj h L->GW P c n all K ms post pre nf (bG aj r) h->bK n X g0 (bG (dC L aj) r) h a w->pN all.length L<=fuel ->
  (∀ r' h' g' a' w',K r' h'->bK n X g' r' h' a' w'->Step X g0 h w g' h' w'->Q .normal a' w')->wpAny P .any all.toArray Q fuel L a w:=by
 intro pre;induction pre with
 | nil=>intro kn nf aj h hi hr hc hu hf;exact ZL fuel 100 ord ms post kn nf aj h L g0 a w hs hi (GV hr) hc hu hf
 | cons k pre vU=>
   intro kn nf aj h hi hr hc hu hf;have mm:k∈ord:=by rw [hi.split];simp
   have jz:k ∉ kn:=by have:=hs.p3;rw [hi.split,List.nodup_append] at this;exact fun hm=>this.2.2 k hm k (by simp) rfl
   obtain ⟨aP,o,ho⟩:=hi.lt hs mm
   have ea:L.getD k false=false:=by
    cases hb:L.getD k false with
    | false=>rfl
    | true=>exact absurd (hi.qR k hb) jz
   have sN:∀ e∈o.after.toList,Region.binds .any e=true->e.on∈kn:=by obtain ⟨o2,cg,hh⟩:=hs.p4 kn k _ hi.split;rw [ho] at cg;cases cg;exact hh
   have tB:∀ j,Cl (iS all []) k j->j∈kn:=by
    intro j hj
    have:=(tz hs (S:=fun i=>i∈kn\/i=k) (fun i hS=>by
     rcases hS with hS|rfl
     ·obtain ⟨o',bF,hh⟩:=hi.DE hs i hS;exact ⟨o',bF,fun e a b=>.inl (hh e a b)⟩
     exact ⟨o,ho,fun e a b=>.inl (sN e a b)⟩) k (.inr rfl) j hj)
    rcases this.1 with h|rfl
    ·exact h
    exact absurd this.2 (Nat.lt_irrefl _)
   have qU:∀ t∈jg all o,ml all (iS all []) aj r k t (bl (bG aj r) t):=by intro t ht;refine zz hi hs ho (fun x hx=>hx) (fun j hj=>⟨tB j hj,fun x hx _=>hx⟩) ?_ t ht;intro x hx jK;exact jz (hi.qS hs (hi.gI x hx).1 jK).1
   unfold GW at hr;rw [ho] at hr;simp only at hr;split at hr<;>try contradiction
   obtain ⟨g,v,gr,hE⟩:=KE hr;unfold zF at gr;split at gr<;>try contradiction
   rename_i jO;have jO:=Gy jO;obtain ⟨jA,pP⟩:∃ jA,jA=(match rv (bG aj r) g o.op with|true=>nf|false=>k::nf):=⟨_,rfl⟩
   have xD:k ∉ jA->∀ h',dS P all (bG aj r) h' (fun g' v'=>g'=g/\v'=v) o:=by
    intro bn h';rw [pP] at bn;split at bn
    ·rename_i DP;exact KG DP hE
    simp at bn
   have DQ:∀ x∈nf,x∈jA:=by
    intro x hx;rw [pP];split
    ·exact hx
    exact List.mem_cons_of_mem _ hx
   have hold:∀ k'∈kn,L.getD k' false=false->∃ o g v Rk,all[k']?=some o/\dS P all Rk h (fun g' v'=>g'=g/\v'=v) o /\
       (∀ t∈jg all o,ml all (iS all []) aj r k' t (bl Rk t)) /\
       (∀ d,o.dst=some d->(k',d,g,v)∈aj/\d<n/\(∀ e∈g,e.1≠d)/\∀ t gg v,bl r t=some (gg,v)->∀ e∈gg,e.1≠d) /\
       (k' ∉ jA->∀ h',dS P all Rk h' (fun g' v'=>g'=g/\v'=v) o):=by
    intro k' bn dR;obtain ⟨o',g2,v2,Rk,q1,q2,q3,q4,q5⟩:=hi.fact k' bn dR;exact ⟨o',g2,v2,Rk,q1,q2,q3,q4,fun hh=>q5 fun hm=>hh (DQ _ hm)⟩
   cases hd:o.dst with
   | none=>
     rw [hd] at gr
     have dT:=hi.enter (n:=n) (P:=P) (g:=g) (v:=v) (eF:=aj) (qT:=jA) (h':=h) (L':=L) hs ho (by rw [hd]) jO (.inl rfl) hold
      (fun _=>⟨o,g,v,bG aj r,ho,hE,qU,fun d db=>(by rw [hd] at db;cases db),xD⟩)
     exact vU _ _ aj h dT (by rw [pP];exact gr) hc hu hf
   | some d=>
     rw [hd] at gr;unfold fS at gr;simp only at gr;split at gr<;>try contradiction
     rename_i pO;rw [Nat.blt_eq] at pO;split at gr<;>try contradiction
     rename_i qH;obtain ⟨gO,dN⟩:=xh qH;have mX:=Bd dN
     have dT:=hi.enter (n:=n) (P:=P) (g:=g) (v:=v) (eF:=(k,d,g,v)::aj) (qT:=jA) (h':=h) (L':=L) hs ho (by rw [hd]) jO (.inl rfl) hold
      (fun _=>⟨o,g,v,bG aj r,ho,hE,fun t ht=>(qU t ht).more (fun x hx=>List.mem_cons_of_mem _ hx),
        fun d' db=>(by rw [hd] at db;cases db;exact ⟨List.mem_cons_self,pO,gO,fun t gg vv hl=>zb mX hl⟩),xD⟩)
     refine vU _ _ ((k,d,g,v)::aj) h dT (by rw [pP];exact gr) ?_ hu hf;have hE:dC L ((k,d,g,v)::aj)=dC L aj:=by unfold dC;rw [List.filter_cons,if_neg (by simp only [ea];exact Bool.false_ne_true)]
     rw [hE];exact hc
theorem Xe {c:av} {F:Func} {E:En} {p:List Bool} {S:List Fr} {k id:Nat} {ops:Array Oper} {r:aC} {h:af} (fm:cat F p=.region id ops true) (hm:P.follows .mixedOrders=true) (pre ms post:List Nat) (fz:List Nat)
  (hd:aJ (aH F p) (pre++(ms++post))=true)
  (hr:GW P c E.n (aH F p) (fun r' h'=>tU (fun sE qi=>pw sE (fun r3=>Bk (run P c F E k (.ex .normal) S) r3 qi) c.my) fz r' h') ms post pre [] r h) :
  Holds P E.n E.X (cat F p) (fun e r h=>run P c F E k (.ex e) S r h) r h:=by
 have ho:=Li fm;rw [ho] at hd hr;rw [fm];refine ⟨fun g a w hc=>?_⟩;refine wp_region_any hm ?_;obtain ⟨dc,ds⟩:=hc.cw.drew;have hs:=Qu hd;have bN:bK E.n E.X g r h a w.drew:=hc.step dc ds
 have hi:iz E.n P ops.toList (iS ops.toList []) (pre++(ms++post)) r [] (pre++(ms++post)) [] [] h (Array.replicate ops.size false):=by
  have cJ:∀ i,(Array.replicate ops.size false).getD i false=false:=by intro i;by_cases hi:i<ops.size<;>simp [hi]
  refine ⟨rfl,by simp,?_,?_,by simp,by simp,by simp,by simp,by simp⟩
  ·intro i hL;rw [cJ i] at hL;cases hL
  intro i hL;rw [cJ i] at hL;cases hL
 have:=ZQ (n:=E.n) (X:=E.X) (r:=r) (c:=c) (fuel:=ops.size) (g0:=g) (a:=a) (w:=w.drew) (L:=Array.replicate ops.size false) (Q:=fun e a' w'=>∃ ex g' r' h',e=Ex.toExit ex/\run P c F E k (.ex ex) S r' h'/\bK E.n E.X g' r' h' a' w'/\Step E.X g h w g' h' w') hs pre [] [] [] h
  hi hr bN (by unfold pN;exact Nat.le_trans (List.length_filter_le _ _) (by simp)) (by
   intro r' h' g' a' w' hK cQ ax;obtain ⟨r2,h2,hK,vV,DR⟩:=KU hK cQ;obtain ⟨r3,hK,hl⟩:=AK (k:=fun r3=>Bk (run P c F E k (.ex .normal) S) r3 h2) hK;obtain ⟨r4,h4,ht,hK⟩:=hK;obtain ⟨g4,ZR,ZS⟩:=ht _ _ _ _ _ (vV.less hl);exact ⟨.normal,g4,r4,h4,rfl,hK,ZR,ds.trans hc.cw.own (ax.trans bN.cw.own (DR.trans cQ.cw.own ZS))⟩)
 exact this
theorem Xf {A:Prop} {P:Nat->Nat->Nat->Prop} (h1:(∀ a b c,P a b c)->A) (h2:∀ a b c,P a b c):A:=h1 h2
end Go.Abs
/-
 U5: RJ U6 U7 AT U8 U9,IN V0 V1 (ZT/lay-plain.ZU out of 'V2.V3,ZG ZT/lay-V4.ZU wrote): RJ ZV V5 V6 RJ ZV V7: 'V8,'V9,'W1,'W2,'W3 W4 W5 W6: no command of the W7: W8 A W9-IN. X0 X1: the table of numbers ('.._ren') and one theorem,a field a fact of the X2 own or the X3 X4;each ZW: X5 X6.
-/
namespace Go.Proofs
open Go.Shelf
def Tryz.ZX:Go.Shelf.Ren:=⟨fun|6=>116|15=>121|14=>157|28=>170|29=>171|20=>196|21=>197|22=>198|23=>199|24=>200|25=>201|26=>202|27=>203|46=>221|47=>207|48=>208|49=>222|50=>223|57=>230|n=>n,fun|22=>56|24=>117|25=>236|3=>3|39=>102|0=>0|53=>167|55=>170|4=>4|46=>278|45=>277|50=>205|5=>5|9=>9|66=>326|70=>330|76=>339|77=>109|n=>n,fun|n=>n⟩
theorem Tryz.ZY:Go.Proofs.SlLaysF0.n6 Tryz.prog Tryz.ZX:={
 mixed:=by kernel_rfl
 f6:=⟨Tryz.f116.name,by decide,Tryz.func116.trans (congrArg some (by kernel_rfl))⟩
 f14:=⟨Tryz.f157.name,by decide,Tryz.func157.trans (congrArg some (by kernel_rfl))⟩
 f15:=Tryz.func121.trans (congrArg some (by kernel_rfl))
 f20:=⟨Tryz.f196.name,by decide,Tryz.func196.trans (congrArg some (by kernel_rfl))⟩
 f21:=⟨Tryz.f197.name,by decide,Tryz.func197.trans (congrArg some (by kernel_rfl))⟩
 f22:=⟨Tryz.f198.name,by decide,Tryz.func198.trans (congrArg some (by kernel_rfl))⟩
 f23:=⟨Tryz.f199.name,by decide,Tryz.func199.trans (congrArg some (by kernel_rfl))⟩
 f24:=⟨Tryz.f200.name,by decide,Tryz.func200.trans (congrArg some (by kernel_rfl))⟩
 f25:=⟨Tryz.f201.name,by decide,Tryz.func201.trans (congrArg some (by kernel_rfl))⟩
 f26:=⟨Tryz.f202.name,by decide,Tryz.func202.trans (congrArg some (by kernel_rfl))⟩
 f27:=⟨Tryz.f203.name,by decide,Tryz.func203.trans (congrArg some (by kernel_rfl))⟩
 f28:=Tryz.func170.trans (congrArg some (by kernel_rfl))
 f29:=Tryz.func171.trans (congrArg some (by kernel_rfl))
 f46:=⟨Tryz.f221.name,by decide,Tryz.func221.trans (congrArg some (by kernel_rfl))⟩
 f47:=Tryz.func207.trans (congrArg some (by kernel_rfl))
 f48:=Tryz.func208.trans (congrArg some (by kernel_rfl))
 f49:=⟨Tryz.f222.name,by decide,Tryz.func222.trans (congrArg some (by kernel_rfl))⟩
 f50:=⟨Tryz.f223.name,by decide,Tryz.func223.trans (congrArg some (by kernel_rfl))⟩
 f57:=⟨Tryz.f230.name,by decide,Tryz.func230.trans (congrArg some (by kernel_rfl))⟩
 t0:=Tryz.underlying0
 a0:=Tryz.isAgg0
 z0:=Tryz.sizeOf0
 v0:=Tryz.zeroValue0
 t3:=Tryz.underlying3
 a3:=Tryz.isAgg3
 z3:=Tryz.sizeOf3
 v3:=Tryz.zeroValue3
 t4:=Tryz.underlying4
 a4:=Tryz.isAgg4
 z4:=Tryz.sizeOf4
 v4:=Tryz.zeroValue4
 t5:=Tryz.underlying5
 a5:=Tryz.isAgg5
 z5:=Tryz.sizeOf5
 v5:=Tryz.zeroValue5
 t9:=Tryz.underlying9
 a9:=Tryz.isAgg9
 z9:=Tryz.sizeOf9
 v9:=Tryz.zeroValue9
 t22:=Tryz.underlying56
 a22:=Tryz.isAgg56
 z22:=Tryz.sizeOf56
 v22:=Tryz.zeroValue56
 t25:=Tryz.underlying236
 a25:=Tryz.isAgg236
 z25:=Tryz.sizeOf236
 v25:=Tryz.zeroValue236
 t39:=Tryz.underlying102
 a39:=Tryz.isAgg102
 z39:=Tryz.sizeOf102
 v39:=Tryz.zeroValue102
 t45:=Tryz.underlying277
 a45:=Tryz.isAgg277
 z45:=Tryz.sizeOf277
 v45:=Tryz.zeroValue277
 t46:=Tryz.underlying278
 a46:=Tryz.isAgg278
 z46:=Tryz.sizeOf278
 v46:=Tryz.zeroValue278
 t50:=Tryz.underlying205
 a50:=Tryz.isAgg205
 z50:=Tryz.sizeOf205
 v50:=Tryz.zeroValue205
 t53:=Tryz.underlying167
 a53:=Tryz.isAgg167
 z53:=Tryz.sizeOf167
 v53:=Tryz.zeroValue167
 t55:=Tryz.underlying170
 a55:=Tryz.isAgg170
 z55:=Tryz.sizeOf170
 v55:=Tryz.zeroValue170
 t66:=Tryz.underlying326
 a66:=Tryz.isAgg326
 z66:=Tryz.sizeOf326
 v66:=Tryz.zeroValue326
 t70:=Tryz.underlying330
 a70:=Tryz.isAgg330
 z70:=Tryz.sizeOf330
 v70:=Tryz.zeroValue330
 t76:=Tryz.underlying339
 a76:=Tryz.isAgg339
 z76:=Tryz.sizeOf339
 v76:=Tryz.zeroValue339
 t77:=Tryz.underlying109
 a77:=Tryz.isAgg109
 z77:=Tryz.sizeOf109
 v77:=Tryz.zeroValue109 }
def Tryz.ZZ:Go.Shelf.Ren:=⟨fun|6=>79|15=>121|14=>120|28=>170|29=>171|20=>162|21=>163|22=>164|23=>165|24=>166|25=>167|26=>168|27=>169|46=>206|47=>207|48=>208|49=>209|50=>210|57=>224|n=>n,fun|22=>62|24=>68|25=>189|3=>3|39=>102|0=>0|53=>167|55=>170|4=>4|46=>278|45=>277|50=>205|5=>5|9=>9|66=>326|70=>330|76=>339|77=>109|n=>n,fun|n=>n⟩
theorem Tryz.j1:Go.Proofs.SlLaysF0.n6 Tryz.prog Tryz.ZZ:={
 mixed:=by kernel_rfl
 f6:=⟨Tryz.f79.name,by decide,Tryz.func79.trans (congrArg some (by kernel_rfl))⟩
 f14:=⟨Tryz.f120.name,by decide,Tryz.func120.trans (congrArg some (by kernel_rfl))⟩
 f15:=Tryz.func121.trans (congrArg some (by kernel_rfl))
 f20:=⟨Tryz.f162.name,by decide,Tryz.func162.trans (congrArg some (by kernel_rfl))⟩
 f21:=⟨Tryz.f163.name,by decide,Tryz.func163.trans (congrArg some (by kernel_rfl))⟩
 f22:=⟨Tryz.f164.name,by decide,Tryz.func164.trans (congrArg some (by kernel_rfl))⟩
 f23:=⟨Tryz.f165.name,by decide,Tryz.func165.trans (congrArg some (by kernel_rfl))⟩
 f24:=⟨Tryz.f166.name,by decide,Tryz.func166.trans (congrArg some (by kernel_rfl))⟩
 f25:=⟨Tryz.f167.name,by decide,Tryz.func167.trans (congrArg some (by kernel_rfl))⟩
 f26:=⟨Tryz.f168.name,by decide,Tryz.func168.trans (congrArg some (by kernel_rfl))⟩
 f27:=⟨Tryz.f169.name,by decide,Tryz.func169.trans (congrArg some (by kernel_rfl))⟩
 f28:=Tryz.func170.trans (congrArg some (by kernel_rfl))
 f29:=Tryz.func171.trans (congrArg some (by kernel_rfl))
 f46:=⟨Tryz.f206.name,by decide,Tryz.func206.trans (congrArg some (by kernel_rfl))⟩
 f47:=Tryz.func207.trans (congrArg some (by kernel_rfl))
 f48:=Tryz.func208.trans (congrArg some (by kernel_rfl))
 f49:=⟨Tryz.f209.name,by decide,Tryz.func209.trans (congrArg some (by kernel_rfl))⟩
 f50:=⟨Tryz.f210.name,by decide,Tryz.func210.trans (congrArg some (by kernel_rfl))⟩
 f57:=⟨Tryz.f224.name,by decide,Tryz.func224.trans (congrArg some (by kernel_rfl))⟩
 t0:=Tryz.underlying0
 a0:=Tryz.isAgg0
 z0:=Tryz.sizeOf0
 v0:=Tryz.zeroValue0
 t3:=Tryz.underlying3
 a3:=Tryz.isAgg3
 z3:=Tryz.sizeOf3
 v3:=Tryz.zeroValue3
 t4:=Tryz.underlying4
 a4:=Tryz.isAgg4
 z4:=Tryz.sizeOf4
 v4:=Tryz.zeroValue4
 t5:=Tryz.underlying5
 a5:=Tryz.isAgg5
 z5:=Tryz.sizeOf5
 v5:=Tryz.zeroValue5
 t9:=Tryz.underlying9
 a9:=Tryz.isAgg9
 z9:=Tryz.sizeOf9
 v9:=Tryz.zeroValue9
 t22:=Tryz.underlying62
 a22:=Tryz.isAgg62
 z22:=Tryz.sizeOf62
 v22:=Tryz.zeroValue62
 t25:=Tryz.underlying189
 a25:=Tryz.isAgg189
 z25:=Tryz.sizeOf189
 v25:=Tryz.zeroValue189
 t39:=Tryz.underlying102
 a39:=Tryz.isAgg102
 z39:=Tryz.sizeOf102
 v39:=Tryz.zeroValue102
 t45:=Tryz.underlying277
 a45:=Tryz.isAgg277
 z45:=Tryz.sizeOf277
 v45:=Tryz.zeroValue277
 t46:=Tryz.underlying278
 a46:=Tryz.isAgg278
 z46:=Tryz.sizeOf278
 v46:=Tryz.zeroValue278
 t50:=Tryz.underlying205
 a50:=Tryz.isAgg205
 z50:=Tryz.sizeOf205
 v50:=Tryz.zeroValue205
 t53:=Tryz.underlying167
 a53:=Tryz.isAgg167
 z53:=Tryz.sizeOf167
 v53:=Tryz.zeroValue167
 t55:=Tryz.underlying170
 a55:=Tryz.isAgg170
 z55:=Tryz.sizeOf170
 v55:=Tryz.zeroValue170
 t66:=Tryz.underlying326
 a66:=Tryz.isAgg326
 z66:=Tryz.sizeOf326
 v66:=Tryz.zeroValue326
 t70:=Tryz.underlying330
 a70:=Tryz.isAgg330
 z70:=Tryz.sizeOf330
 v70:=Tryz.zeroValue330
 t76:=Tryz.underlying339
 a76:=Tryz.isAgg339
 z76:=Tryz.sizeOf339
 v76:=Tryz.zeroValue339
 t77:=Tryz.underlying109
 a77:=Tryz.isAgg109
 z77:=Tryz.sizeOf109
 v77:=Tryz.zeroValue109 }
end Go.Proofs
/-
 The abstract fR,part Z2: the j9 sort by a function that X7,at rows of elements of k cells.
-/
namespace Go.Abs
open Go Go.Sort Go.Proofs
variable {P:Program} {X:Nat->Prop} {g0:Gh} {h:af} {w:World}
theorem au.DV {c:Cx}:∀ {xs:List AV} {us:List Value},xs.length=us.length->(∀ (i:Nat) x u,xs[i]?=some x->us[i]?=some u->ae c x u)->au c xs us
 | [],[],_,_=>by simp [au]
 | x::xs,u::us,hl,h=>by simp only [au];exact ⟨u,us,rfl,h 0 x u rfl rfl,au.DV (by simpa using hl) fun i x u h1 h2=>h (i+1) x u (by simpa using h1) (by simpa using h2)⟩
 | [],_::_,hl,_=>by simp at hl
 | _::_,[],hl,_=>by simp at hl
theorem GX {β:Type} {k:Nat}:∀ {L:List (List β)},(∀ x∈L,x.length=k)->L.flatten.length=L.length*k
 | [],_=>by simp
 | x::L,h=>by rw [List.flatten_cons,List.length_append,GX (fun y hy=>h y (by simp [hy])),h x (by simp),List.length_cons,Nat.add_mul];omega
theorem GY {β:Type} {k:Nat} (hk:0<k):∀ {L:List (List β)} {i j:Nat} {x:List β},(∀ x∈L,x.length=k)->L[i]?=some x->j<k->L.flatten[i*k+j]?=x[j]?
 | [],i,j,x,_,hx,_=>by simp at hx
 | y::L,0,j,x,h,hx,hj=>by simp at hx;subst hx;have:=h y (by simp);rw [List.flatten_cons,Nat.zero_mul,Nat.zero_add,List.getElem?_append_left (by omega)]
 | y::L,i+1,j,x,h,hx,hj=>by
   have hy:=h y (by simp);have e:(i+1)*k+j=y.length+(i*k+j):=by rw [hy,Nat.add_mul];omega
   rw [List.flatten_cons,e,List.getElem?_append_right (by omega),Nat.add_sub_cancel_left];exact GY hk (fun z hz=>h z (by simp [hz])) (by simpa using hx) hj
theorem GZ {t n k:Nat} (h:t<n*k):t / k<n/\t % k<k/\t=t / k*k+t % k:=by
 have k0:0<k:=by rcases Nat.eq_zero_or_pos k with h0|h0;subst h0;simp at h;exact h0
 refine ⟨(Nat.div_lt_iff_lt_mul k0).2 h,Nat.mod_lt _ k0,?_⟩;have:=Nat.div_add_mod t k;rw [Nat.mul_comm] at this;omega
theorem k6 {l1 l2:af} {b:Nat} {cs l:List AV} {us:List Value} {w':World} {p:Addr} {cc eG:Array Value} {t:TypeId} (hc:CW X g0 (l1++(b,.vec cs)::l2) w)
  (h1:g0.pl b=some p) (h4:w.heap[p.block]?=some (.cells cc t (0,0))) (hlen:l.length=cs.length)
  (e7:w'.os=w.os) (e8:w'.tape=w.tape/\w.drawn<=w'.drawn) (e9:w'.output=w.output) (e6:w.heap.size<=w'.heap.size) (e5:∀ aT,aT<w.heap.size->aT≠p.block->w'.heap[aT]?=w.heap[aT]?)
  (e1:w'.heap[p.block]?=some (.cells eG t (0,0))) (e2:eG.size=cc.size) (e4:∀ (j:Nat) u,us[j]?=some u->eG[p.off+j]?=some u)
  (bd:au ⟨g0,live X (l1++(b,.vec cs)::l2),w⟩ l us) (ho:∀ u∈us,u.oneCell'=true) :
  CW X g0 (l1++(b,.vec l)::l2) w'/\Step X g0 (l1++(b,.vec cs)::l2) w g0 (l1++(b,.vec l)::l2) w':=by
 have jt:=hc.obj b (.vec cs) (by simp);obtain ⟨p',Jw,t0,a1,h2,h3,a4,h5,h6⟩:=jt;simp only at a1 h3 a4;rw [h1] at a1;cases a1
 rw [h4] at a4;cases a4
 have mc:=bd.length;have iG:b∈keys (l1++(b,.vec cs)::l2):=by rw [iZ];exact .inl rfl
 have ax:Step X g0 (l1++(b,.vec cs)::l2) w g0 (l1++(b,.vec l)::l2) w':=by
  refine ⟨e7,e8,e9,e6,fun _ _ e=>e,fun _ _ _ e _=>e,fun _ _ _ e _=>e,fun _ _ e=>e,?_,?_,?_⟩
  ·intro aT hb hn;have aM:aT≠p.block:=fun e=>hn b 0 (e ▸ h3) iG;refine ⟨e5 aT hb aM,fun k s hk hm=>hn k s hk ?_⟩;rw [iZ] at hm ⊢;exact hm
  ·intro aT k s hk hm dd tt ff eR;by_cases e:aT=p.block
   ·subst e;rw [h3] at hk;cases hk
    rw [h4] at eR;cases eR
    exact ⟨eG,e1,e2,fun o ho=>by omega⟩
   exact ⟨dd,(e5 aT (hc.own _ _ _ hk) e).trans eR,rfl,fun _ _=>rfl⟩
  intro aT k s hk _ k' s' bn _;rw [hk] at bn;cases bn;exact Nat.le_refl _
 refine ⟨?_,ax⟩;refine hc.replace ax (fun aT k s hk=>by have:=hc.own _ _ _ hk;omega) (.inl rfl) (fun k hk=>.inr hk) (fun aT s k hk=>.inr ⟨aT,s,hk⟩) ?_ ?_
 ·intro aT k s hk hm
  have aM:aT≠p.block:=by
   intro e;rw [e,h3] at hk;cases hk
   exact hc.sY hm
  exact ⟨e5 aT (hc.own _ _ _ hk) aM,rfl⟩
 refine ⟨p,eG,t,h1,h2,h3,e1,by omega,?_⟩;intro i x hx;obtain ⟨u,hu,hr⟩:=bd.get _ _ hx;exact ⟨u,e4 i u hu,ho u (List.mem_of_getElem? hu),ae.mono (Step.le ax) _ _ hr⟩
def Bq (P:Program) (f g k:Nat):Prop:=∀ (α:Type) (_:Inhabited α) (enc:α->List Value) (cf:α->α->Int) (aT off cap:Nat) (d:Array α) (w:World),
 (∀ x,(enc x).length=k)->(∀ x,∀ v∈enc x,v.oneCell'=true)->SWO (ltOf cf)->CmpLays P g #[] enc k cf aT off d.size w->HoldsK enc k w aT off d->aT<w.heap.size->d.size<4611686018427387904 ->
 Calls P f #[.slice (some ⟨aT,off,none⟩) d.size cap,.func (.func g) #[] #[]] w fun e w'=>e=.returned (.tuple #[])/\∃ d' n os,PermIn 0 d.size d d'/\SortedIn (ltOf cf) 0 d.size d'/\w'=sortWorldK enc k w aT off n d' os
theorem k7 {w w':World} (h1:w'.os=w.os) (h2:w'.tape=w.tape/\w.drawn<=w'.drawn) (h3:w'.output=w.output) (h4:w.heap.size<=w'.heap.size) (h5:∀ b,b<w.heap.size->w'.heap[b]?=w.heap[b]?) :
  ∃ q k8,w'=grow (w.drewN q) k8:=by
 refine ⟨w'.drawn - w.drawn,w'.heap.extract w.heap.size w'.heap.size,?_⟩;obtain ⟨hp,tp,dr,os,out⟩:=w';simp only at h1 h2 h3 h4 h5;obtain ⟨h2,h6⟩:=h2;subst h1 h2 h3;have e1:w.drawn+(dr - w.drawn)=dr:=by omega
 have e2:hp=w.heap++hp.extract w.heap.size hp.size:=by
  refine Array.ext_getElem? fun i=>?_;by_cases hi:i<w.heap.size
  ·rw [Array.getElem?_append_left hi];exact h5 i hi
  rw [Array.getElem?_append_right (by omega),Array.getElem?_extract];by_cases hj:i<hp.size
  ·rw [if_pos (by omega)];congr 1;omega
  rw [if_neg (by omega),Array.getElem?_eq_none (by omega)]
 unfold grow World.drewN;simp only;rw [<- e2,e1]
section
variable {f g k:Nat}
theorem k9 (iJ:0<k) (hf:tP P f) (l4:tP P g) (hs:Bq P f g k) (cmp:List AV->List AV->Int) (xs:List (List AV)) (Ef:∀ x∈xs,x.length=k) (aM:xs≠[]) (jR:xs.length<=4294967296)
  (zP:∀ x∈xs,∀ y∈xs,ab P g [.agg x,.agg y] [] (.int .i64 (cmp x y)))
  (RK:∀ x∈xs,¬ cmp x x<0) (nS:∀ x∈xs,∀ y∈xs,∀ z∈xs,cmp x y<0->cmp y z<0->cmp x z<0) (Kw:∀ x∈xs,∀ y∈xs,∀ z∈xs,¬ cmp x y<0->¬ cmp y z<0->¬ cmp x z<0)
  (b:Nat):aw P f [.aQ b 0 xs.length k,.fn g []] [(b,.vec xs.flatten)] (fun v h'=>v=.aB []/\∃ ys:List (List AV),h'=[(b,.vec ys.flatten)]/\ys.Perm xs/\ys.Pairwise fun x y=>¬ cmp y x<0):=by
 refine ⟨fun X g0 w us hc hr=>.inl ⟨hf,?_⟩⟩;simp only [au] at hr;obtain ⟨u,r,bd,hx,u2,r2,e2,ik,hr⟩:=hr;subst e2 hr;obtain ⟨p,cap,hp,mA,rfl,x2,x3,x4,x5,_⟩:=hx.BF (List.length_pos_iff.2 aM);simp only [ae] at ik;obtain ⟨l5,rfl,ik⟩:=ik;try simp only [au] at ik
 have l6:l5=#[]:=by rw [<- Array.toList_inj];simpa using ik
 subst l6;try simp only at hp x5
 obtain ⟨q,cc,t,h1,h2,h3,h4,h5,h6⟩:=hc.obj b _ (List.mem_singleton.2 rfl);simp only at h1 h3 h4;rw [hp] at h1;cases h1
 have cY:=GX Ef;rw [cY] at h5;have hn:0<xs.length:=List.length_pos_iff.2 aM;obtain ⟨n,jm⟩:∃ n,xs.length=n:=⟨_,rfl⟩;rw [jm] at cY h5 hn jR x2 x3 bd;have aP:p.block<w.heap.size:=(Array.getElem?_eq_some_iff.1 h4).1
 let E:Fin n->List Value:=fun i=>(List.range k).map fun j=>cc[p.off+(i.val*k+j)]!
 have Bs:∀ i,(E i).length=k:=fun i=>by simp [E]
 have RL:∀ (i:Fin n) (j:Nat),j<k->(E i)[j]?=some (cc[p.off+(i.val*k+j)]!):=fun i j hj=>by simp [E,hj]
 have l7:∀ (i:Fin n),xs[i.val]?=some (xs[i.val]'(by have:=i.2;omega)):=fun i=>List.getElem?_eq_getElem (by have:=i.2;omega)
 let V:Fin n->List AV:=fun i=>xs[i.val]'(by have:=i.2;omega)
 have sf:∀ i,V i∈xs:=fun i=>List.getElem_mem _;have Qo:∀ (i:Fin n) (j:Nat),j<k->i.val*k+j<n*k:=fun i j hj=>by have:(i.val+1)*k<=n*k:=Nat.mul_le_mul_right k i.2;rw [Nat.add_mul,Nat.one_mul] at this;omega
 have nw:∀ (i:Fin n) (j:Nat),j<k->∃ x,(V i)[j]?=some x/\cc[p.off+(i.val*k+j)]?=some (cc[p.off+(i.val*k+j)]!)/\(cc[p.off+(i.val*k+j)]!).oneCell'=true/\ae ⟨g0,live X [(b,.vec xs.flatten)],w⟩ x (cc[p.off+(i.val*k+j)]!):=fun i j hj=>by
  have hl:j<(V i).length:=by rw [Ef _ (sf i)];exact hj
  have hg:=GY iJ Ef (l7 i) hj;obtain ⟨u,a1,a2,a3⟩:=h6 (i.val*k+j) (V i)[j] (by rw [hg];exact List.getElem?_eq_getElem hl);have LH:cc[p.off+(i.val*k+j)]! = u:=by have xf:=(Array.getElem?_eq_some_iff.1 a1).1;rw [getElem!_pos cc _ xf];exact (Array.getElem?_eq_some_iff.1 a1).2
  refine ⟨(V i)[j],List.getElem?_eq_getElem hl,?_,?_,?_⟩
  ·rw [LH];exact a1
  ·rw [LH];exact a2
  rw [LH];exact a3
 have Ha:∀ i,∀ v∈E i,v.oneCell'=true:=fun i v hv=>by obtain ⟨j,hj,rfl⟩:=List.mem_map.1 hv;obtain ⟨_,_,_,a3,_⟩:=nw i j (List.mem_range.1 hj);exact a3
 have RM:∀ i,au ⟨g0,live X [(b,.vec xs.flatten)],w⟩ (V i) (E i):=fun i=>by
  refine au.DV (by rw [Ef _ (sf i),Bs]) fun j x u hx hu=>?_;have hj:j<k:=by have:=(List.getElem?_eq_some_iff.1 hu).1;rw [Bs] at this;exact this
  obtain ⟨x',b1,_,_,b4⟩:=nw i j hj;rw [RL i j hj] at hu;rw [hx] at b1;cases b1;cases hu
  exact b4
 let cf:Fin n->Fin n->Int:=fun i j=>cmp (V i) (V j)
 have hI:Inhabited (Fin n):=⟨⟨0,hn⟩⟩
 let d:Array (Fin n):=Array.ofFn fun i:Fin n=>i
 have wc:d.size=n:=(by simp [d]);have l8:∀ i (hi:i<n),d[i]! = ⟨i,hi⟩:=fun i hi=>by rw [getElem!_pos d i (by rw [wc];exact hi)];simp [d]
 have hH:HoldsK E k w p.block (p.off+0) d:=by
  intro t ht;rw [size_flatK,wc] at ht;obtain ⟨m1,m2,m3⟩:=GZ ht;rw [get_flatK E k d t (by rw [wc];exact ht),l8 _ m1,Nat.add_zero];refine ⟨?_,frozen_of_row w p.block _ cc _ h4⟩;rw [cell_of_row w p.block _ cc _ _ h4];obtain ⟨x,b1,b2,b3,b4⟩:=nw ⟨t / k,m1⟩ (t % k) m2;have xf:t % k<(E ⟨t / k,m1⟩).length:=by rw [Bs];exact m2
  show cc[p.off+t]?=some (id ((E ⟨t / k,m1⟩)[t % k]!));rw [getElem!_pos (E ⟨t / k,m1⟩) (t % k) xf];have:=RL ⟨t / k,m1⟩ (t % k) m2;rw [List.getElem?_eq_getElem xf] at this;rw [id,Option.some.inj this];simp only at b2;rw [<- m3] at b2 ⊢;exact b2
 -- any row of the l9
 have RN:∀ (dk:Array (Fin n)) (m:Nat) (os:Array Obj),dk.size=n ->
   CW X g0 [(b,.vec (dk.toList.map V).flatten)] (sortWorldK E k w p.block (p.off+0) m dk os)/\Step X g0 [(b,.vec xs.flatten)] w g0 [(b,.vec (dk.toList.map V).flatten)] (sortWorldK E k w p.block (p.off+0) m dk os):=by
  intro dk m os ma;have RO:∀ x∈dk.toList.map V,x.length=k:=fun x hx=>by obtain ⟨i,_,rfl⟩:=List.mem_map.1 hx;exact Ef _ (sf i)
  have RP:dk.toList.length=n:=(by simpa using ma);have RQ:((dk.toList.map V).flatten).length=n*k:=(by rw [GX RO,List.length_map,RP]);have RR:∀ x∈dk.toList.map E,x.length=k:=fun x hx=>by obtain ⟨i,_,rfl⟩:=List.mem_map.1 hx;exact Bs i
  have LI:((dk.toList.map E).flatten).length=n*k:=(by rw [GX RR,List.length_map,RP]);have Eg:(putRowK E k (Sort.ahead w m) p.block (p.off+0) dk).heap=w.heap.modify p.block (onCells (putCells id (p.off+0) (flatK E k dk))):=rfl;have RT:∀ i,i<n->dk.toList[i]?=some (dk[i]!):=fun i hi=>by rw [Array.getElem?_toList,Array.getElem?_eq_getElem (by omega),getElem!_pos dk i (by omega)]
  have n9:∀ t,t<n*k->((dk.toList.map V).flatten)[t]?=(V dk[t / k]!)[t % k]?:=fun t ht=>by obtain ⟨m1,m2,m3⟩:=GZ ht;have:=GY (i:=t / k) (j:=t % k) (x:=V dk[t / k]!) iJ RO (by rw [List.getElem?_map,RT _ m1];rfl) m2;rw [<- m3] at this;exact this
  have RU:∀ t,t<n*k->((dk.toList.map E).flatten)[t]?=(E dk[t / k]!)[t % k]?:=fun t ht=>by obtain ⟨m1,m2,m3⟩:=GZ ht;have:=GY (i:=t / k) (j:=t % k) (x:=E dk[t / k]!) iJ RR (by rw [List.getElem?_map,RT _ m1];rfl) m2;rw [<- m3] at this;exact this
  refine k6 (l1:=[]) (l2:=[]) (l:=(dk.toList.map V).flatten) (us:=(dk.toList.map E).flatten) (w':=sortWorldK E k w p.block (p.off+0) m dk os) (eG:=putCells id (p.off+0) (flatK E k dk) cc)
   hc hp h4 (by rw [RQ,cY]) rfl ⟨rfl,Nat.le_add_right _ _⟩ rfl (by
    have e0:(putRowK E k (Sort.ahead w m) p.block (p.off+0) dk).heap.size=w.heap.size:=by rw [Eg];simp
    unfold sortWorldK grow;simp only [Array.size_append];omega) (fun aT hb aM=>?_) ?_ (by simp [putCells]) (fun t u hu=>?_) (au.DV (by rw [RQ,LI]) fun t x u hx hu=>?_) (fun u hu=>?_)
  ·unfold sortWorldK;rw [heap_grow_old _ _ (by rw [Eg];simpa using hb),Eg,Array.getElem?_modify,if_neg (Ne.symm aM)]
  ·unfold sortWorldK;rw [heap_grow_old _ _ (by rw [Eg];simpa using aP),Eg,Array.getElem?_modify,if_pos rfl,h4];rfl
  ·have ht:t<n*k:=by have:=(List.getElem?_eq_some_iff.1 hu).1;rw [LI] at this;exact this
   rw [RU t ht] at hu;have xf:p.off+t<cc.size:=(by omega);simp only [putCells,Array.getElem?_mapIdx,Array.getElem?_eq_getElem xf,Option.map_some,Nat.add_zero,size_flatK,ma];rw [if_pos ⟨by omega,by omega⟩,show p.off+t - p.off=t from by omega,get_flatK E k dk t (by rw [ma];exact ht)];obtain ⟨m1,m2,m3⟩:=GZ ht;have hl:t % k<(E dk[t / k]!).length:=by rw [Bs];exact m2
   rw [List.getElem?_eq_getElem hl] at hu;rw [getElem!_pos (E dk[t / k]!) (t % k) hl];exact hu
  ·have ht:t<n*k:=by have:=(List.getElem?_eq_some_iff.1 hu).1;rw [LI] at this;exact this
   rw [RU t ht] at hu;rw [n9 t ht] at hx;obtain ⟨u',a1,a2⟩:=(RM dk[t / k]!).get _ _ hx;rw [hu] at a1;cases a1
   exact a2
  rw [List.mem_flatten] at hu;obtain ⟨l,hl,hu⟩:=hu;obtain ⟨i,_,rfl⟩:=List.mem_map.1 hl;exact Ha i u hu
 have o0:CmpLays P g #[] E k cf p.block (p.off+0) d.size w:=by
  intro m os dk ma x y;rw [wc] at ma;obtain ⟨c1,s1⟩:=RN dk m os ma;obtain ⟨c2,s2⟩:=c1.sub (h':=[]) (fun k o hm=>by cases hm) (by simp [keys]);have hq:=zP (V x) (sf x) (V y) (sf y)
  have gw:au ⟨g0,live X [],sortWorldK E k w p.block (p.off+0) m dk os⟩ [.agg (V x),.agg (V y)] [.agg (E x).toArray,.agg (E y).toArray]:=by
   have up:∀ i,au ⟨g0,live X [],sortWorldK E k w p.block (p.off+0) m dk os⟩ (V i) (E i):=fun i=>au.mono (Step.le (s1.trans hc.own s2)) _ _ (RM i);simp only [au];refine ⟨_,_,rfl,?_,_,_,rfl,?_,rfl⟩
   ·rw [ae];exact ⟨_,rfl,fun u hu=>Ha x u (by simpa using hu),by simpa using up x⟩
   rw [ae];exact ⟨_,rfl,fun u hu=>Ha y u (by simpa using hu),by simpa using up y⟩
  refine (wq.calls l4 (hq.1 X g0 _ #[.agg (E x).toArray,.agg (E y).toArray] c2 gw)).mono ?_;rintro e w' ⟨v,u,g',hh,rfl,⟨rfl,rfl⟩,vV,hu,Eh⟩;rw [ae] at hu;rw [hu.1];exact ⟨rfl,k7 Eh.os Eh.xZ Eh.output Eh.size fun b hb=>(Eh.qe b hb fun k s _ hk=>by cases hk).1⟩
 have o7:SWO (ltOf cf):=by
  refine ⟨fun x=>?_,fun x y z a b=>?_,fun x y z a b=>?_⟩
  ·unfold ltOf;simpa using RK _ (sf x)
  ·unfold ltOf at a b ⊢;simp only [decide_eq_true_eq] at a b ⊢;exact nS _ (sf x) _ (sf y) _ (sf z) a b
  unfold ltOf at a b ⊢;simp only [decide_eq_false_iff_not] at a b ⊢;exact Kw _ (sf x) _ (sf y) _ (sf z) a b
 have hu:us=#[.slice (some ⟨p.block,p.off+0,none⟩) d.size cap,.func (.func g) #[] #[]]:=by rw [<- Array.toList_inj,wc];simpa using bd
 subst hu;refine (hs (Fin n) hI E cf p.block (p.off+0) cap d w Bs Ha o7 o0 hH aP (by rw [wc];omega)).mono ?_;rintro e w' ⟨rfl,d',m,os,o8,o9,rfl⟩;obtain ⟨yM,rP,zn⟩:=o8;rw [wc] at yM;obtain ⟨c1,s1⟩:=RN d' m os yM;refine ⟨.aB [],.tuple #[],g0,_,rfl,⟨rfl,d'.toList.map V,rfl,?_,?_⟩,c1,by rw [ae];exact ⟨#[],rfl,by simp [au]⟩,s1⟩
 ·have e1:d'.extract 0 d.size=d':=by
   have e0:d.size=d'.size:=(by omega);rw [e0];simp
  have e2:d.extract 0 d.size=d:=(by simp);rw [e1,e2] at zn
  have e3:d.toList.map V=xs:=by
   refine List.ext_getElem? fun i=>?_;by_cases hi:i<n
   ·rw [List.getElem?_map,Array.getElem?_toList,Array.getElem?_eq_getElem (by omega)];simp [d,V,hi]
   rw [List.getElem?_eq_none (by simp [wc];omega),List.getElem?_eq_none (by omega)]
  rw [<- e3];exact zn.map V
 rw [List.pairwise_map,List.pairwise_iff_getElem];intro i j hi hj Hb;have dT:i<d'.size:=(by simpa using hi);have ym:j<d'.size:=(by simpa using hj);have:=o9 i j (Nat.zero_le _) Hb (by rw [wc,<- yM];exact ym);unfold ltOf at this;simp only [decide_eq_false_iff_not] at this;rw [getElem!_pos d' i dT,getElem!_pos d' j ym] at this;simpa using this
end
end Go.Abs
/-
 The abstract fR,part Z3: the l9 law,out of the j9 ZW.
-/
namespace Go.Abs
open Go Go.Sort Go.Proofs Go.Shelf
theorem RV {P:Program} {ρ:Ren} (L:SlLaysF0.n6 P ρ) (k g:Nat) (aE:∀ w,(isAgg (ρ.t 24)).run P w=.ok true w) (zE:∀ w,(Go.sizeOf (ρ.t 24)).run P w=.ok k w)
  (eg:∀ args w,(callFunc g args).run P w=.ok (.enter g args) w):Bq P (ρ.f 6) g k:=fun _ _ enc cf aT off cap d w hk h1 hO zP hH hb hs=>
 AnyQ.slices_SortFunc L k aE zE enc hk h1 cf hO g #[] aT off cap d w eg zP hH hb hs
end Go.Abs
/-
 The RW,from the X8 X9 to the abstract fR: xY is read as plain data is there,and a call that answers true and leaves the qe memory alone keeps the statement.
-/
namespace Go.Proofs.YthmcbjcgdfmmaaaGreat.Br
open Go Go.Abs Go.ChangeShapes Go.WideShapes Go.RowKit
inductive Sh (P:Program) (B:Nat):TypeId->List AV->Prop
 | bool {t:TypeId} {b:Bool}:P.underlying t=some .bool->Sh P B t [.bool b]
 | int {t:TypeId} {k:IntKind} {n:Int}:P.underlying t=some (.int k)->(Lit.int k n).wf=true->Sh P B t [.int k n]
 | str {t:TypeId} {s:List UInt8}:P.underlying t=some .string->s.length<=B->Sh P B t [.str s]
 | slice {t e:TypeId} {ys:List (List AV)}:P.underlying t=some (.slice e)->ys.length<=B->(∀ y∈ys,Sh P B e y)->Sh P B t [.sl (P.cellsOf e) none ys]
 | struct {t:TypeId} {fs:Array Field} {parts:List (List AV)}:P.underlying t=some (.struct fs)->parts.length=fs.toList.length ->
    (∀ (i:Nat) f p,fs.toList[i]?=some f->parts[i]?=some p->Sh P B f.type p)->Sh P B t parts.flatten
 | array {t e:TypeId} {n:Nat} {parts:List (List AV)}:P.underlying t=some (.array n e)->parts.length=n->(∀ p∈parts,Sh P B e p)->Sh P B t parts.flatten
def flat (P:Program):Nat->TypeId->Bool
 | 0,_=>false
 | n+1,t=>match P.underlying t with
   | some .bool=>true
   | some (.int _)=>true
   | some .string=>true
   | some (.slice e)=>flat P n e&&Nat.ble 1 (P.cellsOf e)
   | some (.struct fs)=>fs.toList.all fun f=>flat P n f.type
   | some (.array _ e)=>flat P n e
   | _=>false
def c0 (W:World):Cx:=⟨⟨fun _=>none,fun _=>none⟩,live (fun _=>False) [],W⟩
theorem p7 (W:World) (b o:Nat):(c0 W).fr b o:=by intro k s h;cases h
section
variable {H:Type} {enc:TypeId × Value->H} {P:Program} {W:World}
theorem p8 {α β:Type} {f:α->Option β}:∀ {l:List α} {r:List β},l.mapM f=some r->r.length=l.length/\∀ (i:Nat) a,l[i]?=some a->∃ b,f a=some b/\r[i]?=some b:=by
 intro l;induction l with
 | nil=>intro r h;simp at h;subst h;exact ⟨rfl,fun i a h=>by cases h⟩
 | cons x l ih=>
   intro r h;simp only [List.mapM_cons,Option.bind_eq_bind,Option.bind_eq_some_iff,Option.pure_def] at h;obtain ⟨b,hb,r',qw,h⟩:=h;cases h
   obtain ⟨h1,h2⟩:=ih qw;refine ⟨by simp [h1],fun i a ha=>?_⟩;cases i with
   | zero=>cases ha;exact ⟨b,hb,rfl⟩
   | succ i=>exact h2 i a (by simpa using ha)
theorem LJ (l:List (DataW H)) (d:DataW H) (h:d∈l):Rows.uptoBulk d<=Rows.uptoBulkAll l:=by
 induction l with
 | nil=>cases h
 | cons x r ih=>
   simp only [Rows.uptoBulkAll];cases List.mem_cons.1 h with
   | inl e=>subst e;omega
   | inr e=>have:=ih e;omega
theorem p9 (d:DataW H):1<=Rows.uptoBulk d:=by
 cases d with
 | lit l=>cases l<;>simp [Rows.uptoBulk]
 | _=>simp [Rows.uptoBulk]
theorem q9 (l:List (DataW H)):l.length<=Rows.uptoBulkAll l:=by
 induction l with
 | nil=>simp [Rows.uptoBulkAll]
 | cons x r ih=>have:=p9 x;simp only [Rows.uptoBulkAll,List.length_cons];omega
theorem RX (a:Addr) (n:Nat):(a.add n).block=a.block:=by unfold Addr.add;split<;>rfl
theorem RY (a:Addr) (n:Nat):(a.add n).off=a.off+n:=by
 unfold Addr.add;split
 ·rename_i h;subst h;rfl
 rfl
theorem r5 {a:Addr} {n:Nat} {u:Value} (h:W.cell? (a.add n)=some u):W.cell? ⟨a.block,a.off+n,none⟩=some u:=by
 unfold World.cell? at h ⊢;rw [RX,RY] at h;split at h
 ·rename_i hb;simp only [hb];split at h
  ·cases h
  simpa using h
 cases h
theorem RZ {a:Addr} {n:Nat} {us:List Value} {xs:List AV} (h:W.cells? 0 a n=some us) (hr:au (c0 W) xs us) (h1:∀ u∈us,u.oneCell'=true) :
  us.length=n/\(0<n->a.spot=none)/\bC (c0 W) xs a.block a.off:=by
 unfold World.cells? at h;rw [if_pos (Nat.zero_le _)] at h;obtain ⟨hl,hg⟩:=p8 h;simp at hl;refine ⟨hl,fun hn=>?_,?_⟩
 ·obtain ⟨u,hu,_⟩:=hg 0 0 (by simp [hn]);unfold World.cell? at hu;split at hu
  ·split at hu
   ·cases hu
   rename_i hs;simpa [Addr.add] using hs
  cases hu
 have key:∀ (xs:List AV) (us:List Value) (o:Nat),au (c0 W) xs us->(∀ u∈us,u.oneCell'=true)->(∀ (i:Nat) u,us[i]?=some u->W.cell? ⟨a.block,a.off+(o+i),none⟩=some u)->bC (c0 W) xs a.block (a.off+o):=by
  intro xs;induction xs with
  | nil=>intro us o _ _ _;simp [bC]
  | cons x xs ih=>
    intro us o hr h1 hc;simp only [au] at hr;obtain ⟨u,r,rfl,hu,hr⟩:=hr;simp only [bC];refine ⟨⟨u,hc 0 u rfl,h1 u (by simp),p7 W _ _,hu⟩,?_⟩
    have:=ih r (o+1) hr (fun u hu=>h1 u (by simp [hu])) (fun i u hi=>by
     have:=hc (i+1) u (by simpa using hi);rwa [show o+(i+1)=o+1+i from by omega] at this)
    rwa [show a.off+o+1=a.off+(o+1) from rfl]
 have:=key xs us 0 hr h1 (fun i u hi=>by
  have aP:=(List.getElem?_eq_some_iff.1 hi).1;obtain ⟨u',dK,dT⟩:=hg i i (List.getElem?_range (by omega));rw [hi] at dT;cases dT
  rw [show a.off+(0+i)=a.off+i from by omega];exact r5 dK)
 simpa using this
theorem Sa {k:IntKind} {n:Int} (h:(Lit.int k n).wf=true):k.has n:=by simp only [Lit.wf,Bool.and_eq_true,decide_eq_true_eq] at h;simpa [IntKind.has] using h
theorem r6 (K:Kids P (·<P.types.size)) {t:TypeId} {fs:Array Field} (ht:t<P.types.size) (hu:P.underlying t=some (.struct fs)) {cs:List Value} (hl:cs.length=P.cellsOf t) :
  (fs.toList.map fun f=>(cs.drop f.offset).take (P.cellsOf f.type)).flatten=cs:=by
 obtain ⟨_,h2,h3⟩:=K.struct ht hu
 have key:∀ (l:List Field) (o:Nat),(∀ (j:Nat) f,l[j]?=some f->f.offset=o+((l.take j).map fun f=>P.cellsOf f.type).sum)->(l.map fun f:Field=>(cs.drop f.offset).take (P.cellsOf f.type)).flatten=(cs.drop o).take ((l.map fun f=>P.cellsOf f.type).sum):=by
  intro l;induction l with
  | nil=>intro o _;simp
  | cons f l ih=>
    intro o h;have h0:=h 0 f rfl;simp at h0;simp only [List.map_cons,List.flatten_cons,List.sum_cons]
    rw [ih (o+P.cellsOf f.type) (fun j g hj=>by
     have:=h (j+1) g (by simpa using hj);simp only [List.take_succ_cons,List.map_cons,List.sum_cons] at this;omega),h0,List.take_add,List.drop_drop]
 rw [key fs.toList 0 (fun j f hj=>by simpa using h3 j f hj),<- h2,<- hl];simp
theorem Hc (K:Kids P (·<P.types.size)) {B:Nat} (hB:B<=aq):∀ (m n:Nat) (t:TypeId) (cs:List Value) (x:DataW H × List MemPlace),flat P m t=true->t<P.types.size ->
  DataW.trod enc P W 0 (fun _=>true) true n t cs=some x->Rows.uptoBulk x.1<=B->∃ xs,au (c0 W) xs cs/\Sh P B t xs/\∀ u∈cs,u.oneCell'=true
 | 0,n,t,cs,x,hf,_,_,_=>by cases hf
 | m+1,n,t,cs,x,hf,aP,h,hb=>by
   unfold flat at hf;split at hf
   ·rename_i hu;obtain ⟨b,rfl,rfl⟩:=DataW.trod_bool hu h;exact ⟨[.bool b],by simp [au,ae],.bool hu,by simp [Value.oneCell']⟩
   ·rename_i k hu;obtain ⟨n,rfl,rfl,hw⟩:=DataW.trod_int hu h;exact ⟨[.int k n],by simp [au,ae,Sa hw],.int hu hw,by simp [Value.oneCell']⟩
   ·rename_i hu;obtain ⟨s,rfl,rfl,hm⟩:=DataW.trod_string hu h;have gX:s.data.toList.length<=B:=by simp [Rows.uptoBulk] at hb;simp;omega
    exact ⟨[.str s.data.toList],by simp only [au,ae];exact ⟨_,_,rfl,⟨s,rfl,rfl,by omega⟩,rfl⟩,.str hu gX,by simp [Value.oneCell']⟩
   ·rename_i e hu;simp only [Bool.and_eq_true] at hf;have hk:0<P.cellsOf e:=Nat.le_of_ble_eq_true hf.2;have he:e<P.types.size:=K.slice aP hu;rcases DataW.trod_slice hu h with ⟨rfl,rfl⟩|⟨a,len,cap,elems,rest,n',rfl,rfl,rfl,_,vj,fL,dM,mJ,_,_⟩
    ·refine ⟨[.sl (P.cellsOf e) none []],?_,.slice hu (Nat.zero_le _) (by simp),by simp [Value.oneCell']⟩;simp only [au];exact ⟨_,_,rfl,aa.nil hk _ _ (by simp [ae]),rfl⟩
    have zQ:elems.length<=B/\∀ y∈elems,Rows.uptoBulk y.1<=B:=by simp only [Rows.uptoBulk] at hb;have h1:=q9 (elems.map (·.1));simp at h1;refine ⟨by omega,fun y hy=>?_⟩;have:=LJ (elems.map (·.1)) y.1 (List.mem_map.2 ⟨y,hy,rfl⟩);omega
    have each:∀ i,i<len->∃ (xs:List AV) (us:List Value),W.cells? 0 (a.add (i*P.cellsOf e)) (P.cellsOf e)=some us/\au (c0 W) xs us/\Sh P B e xs/\∀ u∈us,u.oneCell'=true:=by intro i hi;have hx:=mJ i hi;have ET:i<elems.length:=(by omega);rw [List.getElem?_eq_getElem ET] at hx;simp only [Option.bind_eq_some_iff] at hx;obtain ⟨us,bd,nS⟩:=hx;obtain ⟨xs,h1,h2,h3⟩:=Hc K hB m n' e us _ hf.1 he nS (zQ.2 _ (List.getElem_mem ET));exact ⟨xs,us,bd,h1,h2,h3⟩
    have build:∀ j i,i+j=len->∃ ys:List (List AV),ys.length=j/\(∀ y∈ys,Sh P B e y)/\cj (c0 W) (P.cellsOf e) ys a.block (a.off+i*P.cellsOf e):=by
     intro j;induction j with
     | zero=>intro i _;exact ⟨[],rfl,by simp,by simp [cj]⟩
     | succ j ih=>
       intro i Hb;obtain ⟨xs,us,bd,h1,h2,h3⟩:=each i (by omega);obtain ⟨hn,mA,hr⟩:=RZ bd h1 h3;obtain ⟨ys,Hd,He,Sb⟩:=ih (i+1) (by omega);refine ⟨xs::ys,by simp [Hd],by intro y hy;cases List.mem_cons.1 hy with|inl e=>subst e;exact h2|inr e=>exact He y e,?_⟩;simp only [cj];refine ⟨⟨by rw [<- h1.length];exact hn,by rw [RX,RY] at hr;exact hr⟩,?_⟩;rwa [show a.off+i*P.cellsOf e+P.cellsOf e=a.off+(i+1)*P.cellsOf e from by rw [Nat.succ_mul];omega]
    obtain ⟨ys,Hd,He,Sb⟩:=build len 0 (by omega);refine ⟨[.sl (P.cellsOf e) none ys],?_,.slice hu (by omega) He,by simp [Value.oneCell']⟩;simp only [au,ae];refine ⟨_,_,rfl,⟨some a,cap,by rw [Hd],by omega,by omega,hk,by simp,?_,?_,by simp⟩,rfl⟩
    ·rintro a' ⟨⟩ aM
     have:0<len:=by
      cases ys with
      | nil=>exact absurd rfl aM
      | cons _ _=>simp at Hd;omega
     obtain ⟨xs,us,bd,h1,h2,h3⟩:=each 0 this;have:=(RZ bd h1 h3).2.1 hk;simpa [Addr.add] using this
    rintro a' ⟨⟩;simpa using Sb
   ·rename_i fs hu;obtain ⟨xs,n',rfl,rfl,hl,hlen,hg⟩:=DataW.trod_struct hu h;have zQ:∀ y∈xs,Rows.uptoBulk y.1<=B:=by simp only [Rows.uptoBulk] at hb;intro y hy;have:=LJ (xs.map (·.1)) y.1 (List.mem_map.2 ⟨y,hy,rfl⟩);omega
    obtain ⟨k1,k2,k3⟩:=K.struct aP hu
    have each:∀ (i:Nat) (f:Field),fs.toList[i]?=some f->∃ p,au (c0 W) p ((cs.drop f.offset).take (P.cellsOf f.type))/\Sh P B f.type p/\∀ u∈(cs.drop f.offset).take (P.cellsOf f.type),u.oneCell'=true:=by
     intro i f Hf;have oe:i<xs.length:=by have:=(List.getElem?_eq_some_iff.1 Hf).1;simp at this;omega
     have hx:=hg i f (by simpa using Hf);rw [List.getElem?_eq_getElem oe] at hx;exact Hc K hB m n' f.type _ _ (List.all_eq_true.1 hf f (List.mem_of_getElem? Hf)) (k1 f (List.mem_of_getElem? Hf)) hx (zQ _ (List.getElem_mem oe))
    have build:∀ (l:List Field) ,(∀ f∈l,∃ p,au (c0 W) p ((cs.drop f.offset).take (P.cellsOf f.type))/\Sh P B f.type p/\∀ u∈(cs.drop f.offset).take (P.cellsOf f.type),u.oneCell'=true) ->
      ∃ parts:List (List AV),parts.length=l.length/\(∀ (i:Nat) f p,l[i]?=some f->parts[i]?=some p->Sh P B f.type p)/\au (c0 W) parts.flatten (l.map fun f:Field=>(cs.drop f.offset).take (P.cellsOf f.type)).flatten /\
       ∀ u∈(l.map fun f:Field=>(cs.drop f.offset).take (P.cellsOf f.type)).flatten,u.oneCell'=true:=by
     intro l;induction l with
     | nil=>intro _;exact ⟨[],rfl,by simp,by simp [au],by simp⟩
     | cons f l ih=>
       intro h;obtain ⟨p,h1,h2,h3⟩:=h f (by simp);obtain ⟨parts,g1,g2,g3,g4⟩:=ih (fun f hf=>h f (by simp [hf]));refine ⟨p::parts,by simp [g1],?_,?_,?_⟩
       ·intro i f' p' hi hp;cases i with
        | zero=>cases hi;cases hp;exact h2
        | succ i=>exact g2 i f' p' (by simpa using hi) (by simpa using hp)
       ·simp only [List.map_cons,List.flatten_cons];exact au.append h1 g3
       intro u hu;simp only [List.map_cons,List.flatten_cons,List.mem_append] at hu;exact hu.elim (h3 u) (g4 u)
    obtain ⟨parts,g1,g2,g3,g4⟩:=build fs.toList (fun f hf=>by
     obtain ⟨i,hi⟩:=List.mem_iff_getElem?.1 hf;exact each i f hi)
    rw [r6 K aP hu hl] at g3 g4;exact ⟨parts.flatten,g3,.struct hu g1 g2,g4⟩
   ·rename_i N e hu;obtain ⟨xs,n',rfl,rfl,hl,hlen,hg⟩:=DataW.trod_array hu h;obtain ⟨k1,k2⟩:=K.array aP hu;have zQ:∀ y∈xs,Rows.uptoBulk y.1<=B:=by simp only [Rows.uptoBulk] at hb;intro y hy;have:=LJ (xs.map (·.1)) y.1 (List.mem_map.2 ⟨y,hy,rfl⟩);omega
    have each:∀ i,i<N->∃ p,au (c0 W) p ((cs.drop (i*P.cellsOf e)).take (P.cellsOf e))/\Sh P B e p/\∀ u∈(cs.drop (i*P.cellsOf e)).take (P.cellsOf e),u.oneCell'=true:=by intro i hi;have oe:i<xs.length:=(by omega);have hx:=hg i hi;rw [List.getElem?_eq_getElem oe] at hx;exact Hc K hB m n' e _ _ hf k1 hx (zQ _ (List.getElem_mem oe))
    have build:∀ j i,i+j=N->∃ parts:List (List AV),parts.length=j/\(∀ p∈parts,Sh P B e p)/\au (c0 W) parts.flatten (cs.drop (i*P.cellsOf e))/\∀ u∈cs.drop (i*P.cellsOf e),u.oneCell'=true:=by
     intro j;induction j with
     | zero=>
       intro i hi;have h0:cs.drop (i*P.cellsOf e)=[]:=List.drop_eq_nil_of_le (by rw [hl,k2,show i=N by omega];exact Nat.le_refl _);rw [h0];exact ⟨[],rfl,by simp,by simp [au],by simp⟩
     | succ j ih=>
       intro i hi;obtain ⟨p,h1,h2,h3⟩:=each i (by omega);obtain ⟨parts,g1,g2,g3,g4⟩:=ih (i+1) (by omega);have oS:cs.drop (i*P.cellsOf e)=(cs.drop (i*P.cellsOf e)).take (P.cellsOf e)++cs.drop ((i+1)*P.cellsOf e):=(by rw [Nat.succ_mul,<- List.drop_drop,List.take_append_drop]);rw [oS];refine ⟨p::parts,by simp [g1],?_,?_,?_⟩
       ·intro y hy;rcases List.mem_cons.1 hy with rfl|hy
        ·exact h2
        exact g2 y hy
       ·simp only [List.flatten_cons];exact au.append h1 g3
       intro u hu;exact (List.mem_append.1 hu).elim (h3 u) (g4 u)
    obtain ⟨parts,g1,g2,g3,g4⟩:=build N 0 (by omega);rw [Nat.zero_mul,List.drop_zero] at g3 g4;exact ⟨parts.flatten,g3,.array hu g1 g2,g4⟩
   cases hf
def vP (P:Program) (B:Nat) (t:TypeId) (x:AV):Prop:=∃ xs,Sh P B t xs/\match P.underlying t with
 | some (.struct _)=>x=.agg xs
 | some (.array _ _)=>x=.agg xs
 | _=>xs=[x]
def Ei (P:Program) (B:Nat):List TypeId->List AV->Prop
 | [],[]=>True
 | t::ts,x::xs=>vP P B t x/\Ei P B ts xs
 | _,_=>False
theorem r7 (K:Kids P (·<P.types.size)) {B:Nat} (hB:B<=aq) {m:Nat} {t:TypeId} {v:Value} {d:DataW H} {ps:List MemPlace} {base:Nat} (hf:flat P m t=true) (aP:t<P.types.size)
  (aV:Value.okWide P W .any base t v) (h:DataW.Trod enc P W 0 (fun _=>true) true t v d ps) (hb:Rows.uptoBulk d<=B):∃ x,ae (c0 W) x v/\vP P B t x:=by
 obtain ⟨n,h⟩:=h;obtain ⟨xs,h1,h2,h3⟩:=Hc K hB m n t _ _ hf aP h hb
 have one:∀ x,xs=[x]->(∀ cs,v≠.agg cs)->(∀ fs,P.underlying t≠some (.struct fs))/\(∀ n e,P.underlying t≠some (.array n e))->∃ x,ae (c0 W) x v/\vP P B t x:=by
  rintro x rfl aM Ej;have hv:v.cells.toList=[v]:=by cases v<;>first|rfl|exact absurd rfl (aM _)
  rw [hv] at h1;simp only [au] at h1;obtain ⟨u,r,hu,hx,rfl⟩:=h1;cases hu
  refine ⟨x,hx,[x],h2,?_⟩;split
  ·rename_i fs zM;exact absurd zM (Ej.1 fs)
  ·rename_i n e zM;exact absurd zM (Ej.2 n e)
  rfl
 unfold Value.okWide at aV;cases h2 with
 | bool hu=>
   rw [hu] at aV;refine one _ rfl (fun cs hv=>?_) (by rw [hu];simp);subst hv;simp [Cell.okWide,hu,Cell.ok] at aV
 | int hu hw=>
   rw [hu] at aV;refine one _ rfl (fun cs hv=>?_) (by rw [hu];simp);subst hv;simp [Cell.okWide,hu,Cell.ok] at aV
 | str hu hl=>
   rw [hu] at aV;refine one _ rfl (fun cs hv=>?_) (by rw [hu];simp);subst hv;simp [Cell.okWide,hu,Cell.ok] at aV
 | slice hu hl hy=>
   rw [hu] at aV;refine one _ rfl (fun cs hv=>?_) (by rw [hu];simp);subst hv;simp [Cell.okWide,hu,Cell.ok] at aV
 | @struct _ fs parts hu hl hp=>
   rw [hu] at aV;obtain ⟨cs,rfl,iB,_⟩:=aV;refine ⟨.agg parts.flatten,?_,parts.flatten,.struct hu hl hp,by rw [hu]⟩;simp only [ae];exact ⟨cs,rfl,fun u hu=>h3 u (by simpa [Value.cells] using hu),h1⟩
 | @array _ e n parts hu hl hp=>
   rw [hu] at aV;obtain ⟨cs,rfl,iB,_⟩:=aV;refine ⟨.agg parts.flatten,?_,parts.flatten,.array hu hl hp,by rw [hu]⟩;simp only [ae];exact ⟨cs,rfl,fun u hu=>h3 u (by simpa [Value.cells] using hu),h1⟩
theorem Sc (K:Kids P (·<P.types.size)) {B:Nat} (hB:B<=aq) {m:Nat} {base:Nat}:∀ {ts:List TypeId} {vs:List Value} {ds:List (DataW H)} {ps:List MemPlace},(∀ t∈ts,flat P m t=true/\t<P.types.size) ->
  (∀ (j:Nat) t v,ts[j]?=some t->vs[j]?=some v->Value.okWide P W .any base t v)->DataW.TrodAll enc P W 0 (fun _=>true) true ts vs ds ps->Rows.uptoBulkAll ds<=B ->
  ∃ xs,au (c0 W) xs vs/\Ei P B ts xs
 | [],vs,ds,ps,_,_,h,_=>by obtain ⟨rfl,rfl,rfl⟩:=trodAll_nil h;exact ⟨[],by simp [au],trivial⟩
 | t::ts,vs,ds,ps,hf,aV,h,hb=>by obtain ⟨v,LK,d,Sd,a,b,rfl,rfl,rfl,h1,h2⟩:=trodAll_cons h;simp only [Rows.uptoBulkAll] at hb;obtain ⟨x,hx,hs⟩:=r7 K hB (hf t (by simp)).1 (hf t (by simp)).2 (aV 0 t v rfl rfl) h1 (by omega);obtain ⟨xs,Ri,r8⟩:=Sc K hB (fun t ht=>hf t (by simp [ht])) (fun j t v h1 h2=>aV (j+1) t v (by simpa using h1) (by simpa using h2)) h2 (by omega);exact ⟨x::xs,by simp only [au];exact ⟨v,LK,rfl,hx,Ri⟩,hs,r8⟩
theorem Se {W':World} {sp:Nat->Bool} (K:Kids P (·<P.types.size)) (hz:∀ {t e:TypeId},t<P.types.size->P.underlying t=some (.slice e)->0<P.cellsOf e) :
  ∀ {ts:List TypeId} {vs:List Value} {ds:List (DataW H)} {ps:List MemPlace},(∀ t∈ts,t<P.types.size)->DataW.TrodAll enc P W 0 (fun _=>true) true ts vs ds ps->(∀ p∈ps,W.sameAt W' p)->(∀ p∈ps,sp p.block=true) ->
   DataW.TrodAll enc P W' 0 sp true ts vs ds ps
 | [],vs,ds,ps,_,h,_,_=>by obtain ⟨rfl,rfl,rfl⟩:=trodAll_nil h;exact trodAll_mk0
 | t::ts,vs,ds,ps,hT,h,hs,hp=>by
   obtain ⟨v,LK,d,Sd,a,b,rfl,rfl,rfl,⟨n,h1⟩,h2⟩:=trodAll_cons h
   exact ⟨a,b,⟨n,DataW.trod_stays K hz (fun hh=>by cases hh) (hT t (by simp)) h1 (fun p hp=>hs p (by simp [hp])) (fun p hq=>hp p (by simp [hq]))⟩,
    Se K hz (fun t ht=>hT t (by simp [ht])) h2 (fun p hp=>hs p (by simp [hp])) (fun p hq=>hp p (by simp [hq])),rfl⟩
theorem Sf:∀ {ts:List TypeId} {vs:List Value} {ds:List (DataW H)} {ps:List MemPlace},DataW.TrodAll enc P W 0 (fun _=>true) true ts vs ds ps->ds.length=ts.length
 | [],_,_,_,h=>by obtain ⟨rfl,rfl,_⟩:=trodAll_nil h;rfl
 | t::ts,_,_,_,h=>by obtain ⟨v,LK,d,Sd,a,b,rfl,rfl,rfl,h1,h2⟩:=trodAll_cons h;simp [Sf h2]
theorem r9 (W:World):CW (fun _=>False) ⟨fun _=>none,fun _=>none⟩ [] W:=by
 refine ⟨by simp,⟨0,?_⟩,by simp [keys],by simp [keys],by simp⟩;rintro k (h|h|h|⟨b,s,h⟩)
 ·exact h.elim
 ·simp [keys] at h
 ·exact absurd rfl h
 cases h
theorem RW {f:FuncId} {fn:Func} {s:ChangeSpec} {m:Nat} {tb:TypeId} (K:Kids P (·<P.types.size)) (hz:∀ {t e:TypeId},t<P.types.size->P.underlying t=some (.slice e)->0<P.cellsOf e)
  (Sg:s.vars=[]) (LL:∀ ds:List (DataW H),ds.length=fn.params.toList.length->s.fn H ds={ results:=[.lit (.bool true)],args:=ds })
  (wA:fn.resultTypes=#[tb]) (s5:P.underlying tb=some .bool) (Si:∀ t∈fn.params.toList,flat P m t=true/\t<P.types.size)
  (cU:tP P f) (law:∀ xs,Ei P 1048576 fn.params.toList xs->ab P f xs [] (.bool true))
  {base:Nat} {args:Array Value} {ds gs:List (DataW H)} {before:List MemPlace}
  (LM:∀ (j:Nat) t v,fn.params[j]?=some t->args[j]?=some v->Value.okWide P W .any base t v)
  (hW:DataW.Whole enc P fn.params.toList s.vars false W args.toList ds gs before) (hk:Rows.uptoSmall H (ds++gs)=true) :
  Calls P f args W fun e W'=>∃ v,e=.returned v/\s.post enc P fn false true false false W args v W':=by
 have aP:=hW.lt;have s6:=hW;rw [Sg] at hW;obtain ⟨p,q,hA,hV,Sj,Rx,ew⟩:=hW
 obtain ⟨rfl,rfl⟩:gs=[]/\q=[]:=by
  cases gs with
  | nil=>simp only [DataW.TrodVars] at hV;exact ⟨rfl,hV⟩
  | cons _ _=>simp [DataW.TrodVars] at hV
 simp only [List.append_nil] at Sj hk;subst Sj;have zQ:Rows.uptoBulkAll ds<=1048576:=of_decide_eq_true hk;obtain ⟨xs,cJ,yF⟩:=Sc K (B:=1048576) (by unfold aq;omega) Si (fun j t v h1 h2=>LM j t v (by simpa using h1) (by simpa using h2)) hA zQ;have hlen:ds.length=fn.params.toList.length:=(Sf hA);refine (wq.calls cU ((law xs yF).calls (fun _=>False) ⟨fun _=>none,fun _=>none⟩ W args (r9 W) cJ)).mono ?_;rintro e W' ⟨v,u,g',h',rfl,⟨rfl,rfl⟩,hc,hu,ax⟩;simp only [ae] at hu;subst hu;have hold:∀ b,b<W.heap.size->W'.heap[b]?=W.heap[b]?:=fun b hb=>(ax.qe b hb (fun k s h=>by cases h)).1
 have s7:∀ p∈before,W.sameAt W' p:=by
  intro p hp;have:=aP p hp;cases p with
  | cell b off=>simp only [World.sameAt,World.cell?];rw [hold b this]
  | map b=>exact hold b this
 refine ⟨_,rfl,ds,[],before,[],before,[],s6,?_,?_,?_,?_,fun h=>by cases h⟩
 ·rw [List.append_nil,LL ds hlen,wA];exact trodAll_mk1 (shut_bool s5 _)
 ·rw [List.append_nil,LL ds hlen];exact Se K hz (fun t ht=>(Si t ht).2) hA s7 (fun p hp=>by simpa using aP p hp)
 ·rw [Sg,List.append_nil,LL ds hlen];simp [DataW.TrodVars]
 refine ⟨ax.os,ax.output,fun i hi=>?_⟩;rw [hold i hi];cases hh:W.heap[i]? with
 | none=>simp
 | some o=>cases o<;>simp
end
end Go.Proofs.YthmcbjcgdfmmaaaGreat.Br
set_option maxRecDepth 100000
set_option maxHeartbeats 2000000
namespace Go.Abs.Wall
open Go Go.Abs Go.Proofs
theorem mixed:Tryz.prog.follows .mixedOrders=true:=by decide
theorem within (n low high:Int):ab Tryz.prog 38 [.int .i64 n,.int .i64 low,.int .i64 high] [] (.bool (decide (low<=n)&&decide (n<=high))):=by refine tD (fn:=Tryz.f38) (code:=(Tryz.f38.body.getD .skip)) (c:=⟨[0,1,2,6],[],[],[],[],[]⟩) rfl rfl rfl mixed (by simp [Tryz.f38]) fun X=>?_;(conv=>whnf);exact ⟨rfl,rfl⟩
theorem Bu (n low high:Int):ab Tryz.prog 95 [.int .i64 n,.int .i64 low,.int .i64 high] [] (.bool (decide (low<=n)&&decide (n<=high))):=by refine tD (fn:=Tryz.f95) (code:=(Tryz.f95.body.getD .skip)) (c:=⟨[0,1,2,6],[],[],[],[],[]⟩) rfl rfl rfl mixed (by simp [Tryz.f95]) fun X=>?_;(conv=>whnf);exact ⟨rfl,rfl⟩
def c11:av:=⟨[0,1,4,5,10,14,25],[],[],[],[(6,[0,1,2,3,4,5,6,7,8],[])],[]⟩
theorem Im (a b:List Int) (ha:a.length<=aq) (hb:b.length<=aq):ab Tryz.prog 11 [.sl 1 none (ints a),.sl 1 none (ints b)] [] (.bool (decide (a=b))):=by
 refine tD (fn:=Tryz.f11) (code:=(Tryz.f11.body.getD .skip)) (c:=c11) rfl rfl rfl mixed (by simp [Tryz.f11]) fun X=>?_;unfold aq at ha hb;(conv=>whnf);refine ⟨fun aM=>?_,fun aM=>?_⟩
 ·have aM:(!decide (((ints a).length:Int)=((ints b).length:Int)))=true:=aM;simp at aM;(conv=>whnf);refine ⟨congrArg AV.bool ?_,rfl⟩;symm;exact decide_eq_false (fun e=>aM (by rw [e]))
 have aM:(!decide (((ints a).length:Int)=((ints b).length:Int)))=false:=aM;simp at aM;(conv=>whnf);refine GC (c:=c11) mixed [0,1,5] [] (fun m r h=>∃ i:Nat,r=[(0,[],.sl 1 none (ints a)),(1,[],.sl 1 none (ints b)),(5,[],.int .i64 i)]/\h=[]/\m=a.length - i/\i<=a.length/\∀ j,j<i->a[j]?=b[j]?) ?_ ?_
 ·(conv=>whnf);exact ⟨_,0,rfl,rfl,rfl,by omega,by intro j hj;omega⟩
 rintro m r h ⟨i,rfl,rfl,rfl,hi,hg⟩;(conv=>whnf);refine ⟨fun hb=>?_,fun hb=>?_⟩
 ·have hb:(i:Int)<((ints a).length:Int):=of_decide_eq_true hb;rw [cO] at hb;have h1:i<a.length:=(by omega);have h2:i<b.length:=(by omega);(conv=>whnf);refine ⟨rfl,?_⟩;(conv=>whnf);refine ⟨i,[.int .i64 a[i]],⟨rfl,QJ (List.getElem?_eq_getElem h1)⟩,?_⟩;(conv=>whnf);refine ⟨i,[.int .i64 b[i]],⟨rfl,QJ (List.getElem?_eq_getElem h2)⟩,?_⟩;(conv=>whnf);refine ⟨fun hc=>?_,fun hc=>?_⟩
  ·have hc:(!decide (a[i]=b[i]))=true:=hc;(conv=>whnf);refine ⟨congrArg AV.bool ?_,rfl⟩;symm;refine decide_eq_false (fun e=>?_);subst e;simp at hc
  have hc:(!decide (a[i]=b[i]))=false:=hc;simp at hc;(conv=>whnf);refine ⟨⟨by omega,by omega⟩,?_⟩;conv=>whnf
  exact ⟨a.length - (i+1),by omega,i+1,rfl,rfl,rfl,by omega,fun j hj=>by
   rcases Nat.lt_succ_iff_lt_or_eq.1 hj with h|rfl
   ·exact hg j h
   rw [List.getElem?_eq_getElem h1,List.getElem?_eq_getElem h2,hc]⟩
 have hb:decide ((i:Int)<((ints a).length:Int))=false:=hb;rw [cO] at hb;have hb:=of_decide_eq_false hb;(conv=>whnf);refine ⟨congrArg AV.bool ?_,rfl⟩;symm;refine decide_eq_true (List.ext_getElem? fun j=>?_);by_cases hj:j<i
 ·exact hg j hj
 rw [List.getElem?_eq_none (by omega),List.getElem?_eq_none (by omega)]
end Go.Abs.Wall
namespace Go.Abs.Wall
open Go Go.Abs Go.Proofs
theorem s8 {α:Type} {enc:α->List AV} {l:List α} {i:Nat} (h:i<l.length):(l.map enc)[i]?=some (enc l[i]):=by simp [List.getElem?_eq_getElem h]
def lR (y:UInt8):Bool:=decide (65<=y.toNat)&&decide (y.toNat<=90)
def small (y:UInt8):Bool:=decide (97<=y.toNat)&&decide (y.toNat<=122)
def digit (y:UInt8):Bool:=decide (48<=y.toNat)&&decide (y.toNat<=57)
def uM (y:UInt8):Bool:=lR y||small y||digit y
def pT (s:List UInt8):Bool:=decide (1<=s.length)&&decide (s.length<=8)&&lR (s[0]?.getD 0)&&s.all uM
def c102:av:=⟨[0,2,3,4,22,26,54],[],[],[],[],[]⟩
theorem xO (a:Nat) (y:UInt8):decide ((a:Int)<=(y.toNat:Int))=decide (a<=y.toNat):=by rw [decide_eq_decide];omega
theorem xP (a:Nat) (y:UInt8):decide ((y.toNat:Int)<=(a:Int))=decide (y.toNat<=a):=by rw [decide_eq_decide];omega
theorem validCode (s:List UInt8) (hs:s.length<=aq):ab Tryz.prog 102 [.str s] [] (.bool (pT s)):=by
 refine tD (fn:=Tryz.f102) (code:=(Tryz.f102.body.getD .skip)) (c:=c102) rfl rfl rfl mixed (by simp [Tryz.f102]) fun X=>?_;unfold aq at hs;have h0:¬ (s.length:Int)<1->((0:Int)=((0:Nat):Int)/\s[0]?=some (s[0]?.getD 0)):=by intro h;refine ⟨rfl,?_⟩;rw [List.getElem?_eq_getElem (show 0<s.length by omega)];rfl
 (conv=>whnf);refine ⟨0,s[0]?.getD 0,fun h1=>?_,?_⟩
 ·have h1:(decide ((s.length:Int)<1)||decide (8<(s.length:Int)))=false:=h1;simp only [Bool.or_eq_false_iff,decide_eq_false_iff_not] at h1;exact h0 h1.1
 (conv=>whnf);refine ⟨0,s[0]?.getD 0,fun h1=>?_,?_⟩
 ·have h1:(decide ((s.length:Int)<1)||decide (8<(s.length:Int))||decide (((s[0]?.getD 0).toNat:Int)<65))=false:=h1;simp only [Bool.or_eq_false_iff,decide_eq_false_iff_not] at h1;exact h0 h1.1.1
 (conv=>whnf);refine ⟨fun hc=>?_,fun hc=>?_⟩
 ·have hc:(decide ((s.length:Int)<1)||decide (8<(s.length:Int))||decide (((s[0]?.getD 0).toNat:Int)<65)||decide (90<((s[0]?.getD 0).toNat:Int)))=true:=hc;(conv=>whnf);refine ⟨congrArg AV.bool ?_,rfl⟩;symm;simp only [Bool.or_eq_true,decide_eq_true_eq] at hc;unfold pT lR;simp only [Bool.and_eq_false_iff,decide_eq_false_iff_not];omega
 have hc:(decide ((s.length:Int)<1)||decide (8<(s.length:Int))||decide (((s[0]?.getD 0).toNat:Int)<65)||decide (90<((s[0]?.getD 0).toNat:Int)))=false:=hc;simp only [Bool.or_eq_false_iff,decide_eq_false_iff_not] at hc;have oI:(decide (1<=s.length)&&decide (s.length<=8)&&lR (s[0]?.getD 0))=true:=by unfold lR;simp only [Bool.and_eq_true,decide_eq_true_eq];omega
 (conv=>whnf);refine GC (c:=c102) mixed [0,3] [] (fun m r h=>∃ i:Nat,r=[(0,[],.str s),(3,[],.int .i64 i)]/\h=[]/\m=s.length - i/\i<=s.length/\∀ j y,j<i->s[j]?=some y->uM y=true) ?_ ?_
 ·(conv=>whnf);exact ⟨_,0,rfl,rfl,rfl,by omega,by intro j y hj;omega⟩
 rintro m r h ⟨i,rfl,rfl,rfl,hi,hg⟩;(conv=>whnf);refine ⟨fun hb=>?_,fun hb=>?_⟩
 ·have hb:(i:Int)<(s.length:Int):=of_decide_eq_true hb;have aP:i<s.length:=(by omega);have hx:=List.getElem?_eq_getElem aP;(conv=>whnf);refine ⟨i,s[i],⟨rfl,hx⟩,?_⟩
  have e:((decide ((65:Int)<=(s[i].toNat:Int))&&decide ((s[i].toNat:Int)<=90))||(decide ((97:Int)<=(s[i].toNat:Int))&&decide ((s[i].toNat:Int)<=122)) ||
    (decide ((48:Int)<=(s[i].toNat:Int))&&decide ((s[i].toNat:Int)<=57)))=uM s[i]:=by
   unfold uM lR small digit;rw [<- xO,<- xO,<- xO,<- xP,<- xP,<- xP];rfl
  (conv=>whnf);refine ⟨fun hc=>?_,fun hc=>?_⟩
  ·have hc:(!((decide ((65:Int)<=(s[i].toNat:Int))&&decide ((s[i].toNat:Int)<=90))||(decide ((97:Int)<=(s[i].toNat:Int))&&decide ((s[i].toNat:Int)<=122)) ||
    (decide ((48:Int)<=(s[i].toNat:Int))&&decide ((s[i].toNat:Int)<=57))))=true:=hc
   rw [e] at hc;(conv=>whnf);refine ⟨congrArg AV.bool ?_,rfl⟩;symm;unfold pT;rw [Bool.and_eq_false_iff];right;rw [List.all_eq_false];exact ⟨s[i],List.getElem_mem aP,by simpa using hc⟩
  have hc:(!((decide ((65:Int)<=(s[i].toNat:Int))&&decide ((s[i].toNat:Int)<=90))||(decide ((97:Int)<=(s[i].toNat:Int))&&decide ((s[i].toNat:Int)<=122)) ||
   (decide ((48:Int)<=(s[i].toNat:Int))&&decide ((s[i].toNat:Int)<=57))))=false:=hc
  rw [e] at hc;(conv=>whnf);refine ⟨⟨by omega,by omega⟩,?_⟩;(conv=>whnf);refine ⟨s.length - (i+1),by omega,i+1,rfl,rfl,rfl,by omega,fun j y hj hy=>?_⟩;rcases Nat.lt_succ_iff_lt_or_eq.1 hj with h|rfl
  ·exact hg j y h hy
  rw [hx] at hy;cases hy;simpa using hc
 have hb:¬ (i:Int)<(s.length:Int):=of_decide_eq_false hb;(conv=>whnf);refine ⟨congrArg AV.bool ?_,rfl⟩;symm;unfold pT;rw [oI,Bool.true_and,List.all_eq_true];intro y hy;obtain ⟨j,hj,rfl⟩:=List.getElem_of_mem hy;exact hg j _ (by omega) (List.getElem?_eq_getElem hj)
end Go.Abs.Wall
namespace Go.Abs.Wall
open Go Go.Abs Go.Proofs
structure de where
 kind:Int
 text:List UInt8
 fr:Int
 to:Int
def fY (v:de):List AV:=[.int .i64 v.kind,.str v.text,.int .i64 v.fr,.int .i64 v.to]
def c193:av:=⟨[0,1,2],[],[2],[],[],[]⟩
theorem of (v:de):ab Tryz.prog 193 [.agg (fY v)] [] (.agg [.int .i64 v.kind,.str v.text]):=by refine tD (fn:=Tryz.f193) (code:=(Tryz.f193.body.getD .skip)) (c:=c193) rfl rfl rfl mixed (by simp [Tryz.f193]) fun X=>?_;(conv=>whnf);intro b;(conv=>whnf);refine ⟨_,_,bj.here _,⟨by simp,rfl⟩,?_⟩;(conv=>whnf);exact ⟨rfl,rfl⟩
def nd (a b:de):Bool:=(decide (a.kind=b.kind)&&(decide (a.text=b.text)&&true))&&decide (a.fr<=b.to)&&decide (b.fr<=a.to)
def c151:av:=⟨[0,1,2,3,4],[],[],[],[(1,[0,1,2,3,4,5,6,7,8,9,10,11,12,13,14,15,16,17,18,19],[])],[]⟩
theorem meet (a b:de):ab Tryz.prog 151 [.agg (fY a),.agg (fY b)] [] (.bool (nd a b)):=by refine tD (fn:=Tryz.f151) (code:=(Tryz.f151.body.getD .skip)) (c:=c151) rfl rfl rfl mixed (by simp [Tryz.f151]) fun X=>?_;(conv=>whnf);refine ⟨rfl,?_⟩;(conv=>whnf);refine ⟨_,(of a).wide _,?_⟩;(conv=>whnf);refine ⟨_,(of b).wide _,?_⟩;(conv=>whnf);refine ⟨by decide +kernel,?_⟩;(conv=>whnf);exact ⟨rfl,rfl⟩
def c150:av:=⟨[0,1,2,3],[],[],[],[],[]⟩
theorem s9 (v w:de):ab Tryz.prog 150 [.agg (fY w),.ai (fY v)] [] (.bool (nd v w)):=by refine tD (fn:=Tryz.f150) (code:=(Tryz.f150.body.getD .skip)) (c:=c150) rfl rfl rfl mixed (by simp [Tryz.f150]) fun X=>?_;(conv=>whnf);refine ab.k0 (meet v w) ?_;(conv=>whnf);exact ⟨rfl,rfl⟩
def kX {α:Type} (p:α->Bool) (l:List α):Int:=
 match l.findIdx? p with
 | some i=>(i:Int)
 | none=>-1
theorem Sk {α:Type} {p:α->Bool} {l:List α} {i:Nat} (h:i<l.length) (hp:p l[i]=true) (hb:∀ j (hj:j<i),p (l[j]'(by omega))=false):kX p l=(i:Int):=by
 unfold kX;have:l.findIdx? p=some i:=by rw [List.findIdx?_eq_some_iff_getElem];exact ⟨h,hp,fun j hj=>by simp [hb j hj]⟩
 rw [this]
theorem Sl {α:Type} {p:α->Bool} {l:List α} (hb:∀ j (hj:j<l.length),p l[j]=false):kX p l = -1:=by
 unfold kX;have:l.findIdx? p=none:=by rw [List.findIdx?_eq_none_iff];intro x hx;obtain ⟨j,hj,rfl⟩:=List.getElem_of_mem hx;exact hb j hj
 rw [this]
def c192:av:=⟨[0,1,4,5,7,8,9,16],[],[],[],[],[]⟩
theorem u0 (l:List de) (hl:l.length<=aq) (f:FuncId) (bP:List AV) (p:de->Bool) (hp:∀ w∈l,ab Tryz.prog f (.agg (fY w)::bP) [] (.bool (p w))) :
  ab Tryz.prog 192 [.sl 4 none (l.map fY),.fn f bP] [] (.int .i64 (kX p l)):=by
 refine tD (fn:=Tryz.f192) (code:=(Tryz.f192.body.getD .skip)) (c:=c192) rfl rfl rfl mixed (by simp [Tryz.f192]) fun X=>?_;unfold aq at hl;(conv=>whnf);refine GC (c:=c192) mixed [0,1,7,8] [] (fun m r h=>∃ i:Nat,r=[(0,[],.sl 4 none (l.map fY)),(1,[],.fn f bP),(7,[],.int .i64 (l.map fY).length),(8,[],.int .i64 i)]/\h=[]/\m=l.length - i/\i<=l.length/\∀ j (hj:j<i) (ym:j<l.length),p l[j]=false) ?_ ?_
 ·(conv=>whnf);exact ⟨_,0,rfl,rfl,rfl,by omega,by intro j hj;omega⟩
 rintro m r h ⟨i,rfl,rfl,rfl,hi,hg⟩;(conv=>whnf);refine ⟨fun hb=>?_,fun hb=>?_⟩
 ·have hb:(i:Int)<((l.map fY).length:Int):=of_decide_eq_true hb;rw [List.length_map] at hb;have aP:i<l.length:=(by omega);(conv=>whnf);refine ⟨i,fY l[i],⟨rfl,s8 aP⟩,?_⟩;(conv=>whnf);refine ab.k0 (hp l[i] (List.getElem_mem aP)) ?_;(conv=>whnf);refine ⟨fun hc=>?_,fun hc=>?_⟩
  ·have hc:p l[i]=true:=hc;(conv=>whnf);exact ⟨by rw [Sk aP hc (fun j hj=>hg j hj (by omega))],rfl⟩
  have hc:p l[i]=false:=hc;(conv=>whnf);refine ⟨⟨by omega,by omega⟩,?_⟩;(conv=>whnf);refine ⟨l.length - (i+1),by omega,i+1,rfl,rfl,rfl,by omega,fun j hj ym=>?_⟩;rcases Nat.lt_succ_iff_lt_or_eq.1 hj with h|rfl
  ·exact hg j h ym
  exact hc
 have hb:¬ (i:Int)<((l.map fY).length:Int):=of_decide_eq_false hb;rw [List.length_map] at hb;(conv=>whnf);exact ⟨by rw [Sl (fun j hj=>hg j (by omega) hj)],rfl⟩
theorem zo {α:Type} (p:α->Bool) (l:List α):decide (0<=kX p l)=l.any p:=by
 unfold kX;cases h:l.findIdx? p with
 | none=>
   rw [List.findIdx?_eq_none_iff] at h;have:l.any p=false:=by rw [List.any_eq_false];intro x hx;simp [h x hx]
   rw [this];rfl
 | some i=>
   rw [List.findIdx?_eq_some_iff_getElem] at h;obtain ⟨h1,h2,_⟩:=h;have:l.any p=true:=by rw [List.any_eq_true];exact ⟨l[i],List.getElem_mem h1,h2⟩
   rw [this];exact decide_eq_true (by show (0:Int)<=(i:Int);omega)
def c149:av:=⟨[0,1,4],[],[],[],[],[]⟩
theorem u6 (l:List de) (hl:l.length<=aq) (f:FuncId) (bP:List AV) (p:de->Bool) (hp:∀ w∈l,ab Tryz.prog f (.agg (fY w)::bP) [] (.bool (p w))) :
  ab Tryz.prog 149 [.sl 4 none (l.map fY),.fn f bP] [] (.bool (l.any p)):=by
 refine tD (fn:=Tryz.f149) (code:=(Tryz.f149.body.getD .skip)) (c:=c149) rfl rfl rfl mixed (by simp [Tryz.f149]) fun X=>?_;(conv=>whnf);refine ab.k0 (u0 l hl f bP p hp) ?_;(conv=>whnf);exact ⟨congrArg AV.bool (zo p l),rfl⟩
def Bv (kind:Int) (y:UInt8):Bool:=small y||(!decide (kind=3)&&lR y)
def ng (kind:Int) (s:List UInt8):Bool:=decide (1<=s.length)&&decide (s.length<=8)&&s.all (Bv kind)
def c148:av:=⟨[0,1,4,5,6,14,18,42],[],[],[],[],[]⟩
theorem u7 (kind:Int) (s:List UInt8) (hs:s.length<=aq):ab Tryz.prog 148 [.int .i64 kind,.str s] [] (.bool (ng kind s)):=by
 refine tD (fn:=Tryz.f148) (code:=(Tryz.f148.body.getD .skip)) (c:=c148) rfl rfl rfl mixed (by simp [Tryz.f148]) fun X=>?_;unfold aq at hs;(conv=>whnf);refine ⟨fun hc=>?_,fun hc=>?_⟩
 ·have hc:(decide ((s.length:Int)<1)||decide (8<(s.length:Int)))=true:=hc;(conv=>whnf);refine ⟨congrArg AV.bool ?_,rfl⟩;symm;simp only [Bool.or_eq_true,decide_eq_true_eq] at hc;unfold ng;simp only [Bool.and_eq_false_iff,decide_eq_false_iff_not];omega
 have hc:(decide ((s.length:Int)<1)||decide (8<(s.length:Int)))=false:=hc;simp only [Bool.or_eq_false_iff,decide_eq_false_iff_not] at hc;have oI:(decide (1<=s.length)&&decide (s.length<=8))=true:=by simp only [Bool.and_eq_true,decide_eq_true_eq];omega
 (conv=>whnf);refine GC (c:=c148) mixed [0,1,5] [] (fun m r h=>∃ i:Nat,r=[(0,[],.int .i64 kind),(1,[],.str s),(5,[],.int .i64 i)]/\h=[]/\m=s.length - i/\i<=s.length/\∀ j y,j<i->s[j]?=some y->Bv kind y=true) ?_ ?_
 ·(conv=>whnf);exact ⟨_,0,rfl,rfl,rfl,by omega,by intro j y hj;omega⟩
 rintro m r h ⟨i,rfl,rfl,rfl,hi,hg⟩;(conv=>whnf);refine ⟨fun hb=>?_,fun hb=>?_⟩
 ·have hb:(i:Int)<(s.length:Int):=of_decide_eq_true hb;have aP:i<s.length:=(by omega);have hx:=List.getElem?_eq_getElem aP;(conv=>whnf);refine ⟨i,s[i],⟨rfl,hx⟩,?_⟩
  have e:((decide ((97:Int)<=(s[i].toNat:Int))&&decide ((s[i].toNat:Int)<=122))||((!decide (kind=3)&&decide ((65:Int)<=(s[i].toNat:Int)))&&decide ((s[i].toNat:Int)<=90)))=Bv kind s[i]:=by unfold Bv lR small;rw [<- xO,<- xO,<- xP,<- xP,Bool.and_assoc];rfl
  (conv=>whnf);refine ⟨fun hc=>?_,fun hc=>?_⟩
  ·have hc:(!((decide ((97:Int)<=(s[i].toNat:Int))&&decide ((s[i].toNat:Int)<=122))||((!decide (kind=3)&&decide ((65:Int)<=(s[i].toNat:Int)))&&decide ((s[i].toNat:Int)<=90))))=true:=hc;rw [e] at hc;(conv=>whnf);refine ⟨congrArg AV.bool ?_,rfl⟩;symm;unfold ng;rw [Bool.and_eq_false_iff];right;rw [List.all_eq_false];exact ⟨s[i],List.getElem_mem aP,by simpa using hc⟩
  have hc:(!((decide ((97:Int)<=(s[i].toNat:Int))&&decide ((s[i].toNat:Int)<=122))||((!decide (kind=3)&&decide ((65:Int)<=(s[i].toNat:Int)))&&decide ((s[i].toNat:Int)<=90))))=false:=hc;rw [e] at hc;(conv=>whnf);refine ⟨⟨by omega,by omega⟩,?_⟩;(conv=>whnf);refine ⟨s.length - (i+1),by omega,i+1,rfl,rfl,rfl,by omega,fun j y hj hy=>?_⟩;rcases Nat.lt_succ_iff_lt_or_eq.1 hj with h|rfl
  ·exact hg j y h hy
  rw [hx] at hy;cases hy;simpa using hc
 have hb:¬ (i:Int)<(s.length:Int):=of_decide_eq_false hb;(conv=>whnf);refine ⟨congrArg AV.bool ?_,rfl⟩;symm;unfold ng;rw [oI,Bool.true_and,List.all_eq_true];intro y hy;obtain ⟨j,hj,rfl⟩:=List.getElem_of_mem hy;exact hg j _ (by omega) (List.getElem?_eq_getElem hj)
structure eN where
 code:List UInt8
 wide:Int
 high:Int
 even:Bool
 values:List de
structure Lst where
 iO:Int
 aK:List eN
def hZ (s:eN):List AV:=[.str s.code,.int .i64 s.wide,.int .i64 s.high,.bool s.even,.sl 4 none (s.values.map fY)]
def pU (l:Lst):List AV:=[.int .i64 l.iO,.sl 5 none (l.aK.map hZ)]
def mr (l:Lst) (before:List de) (v:de):Int:=
 if v.kind<1\/3<v.kind\/ng v.kind v.text=false then 12
 else if v.fr<1\/v.to<v.fr\/l.iO<v.to then 13
 else if before.any (nd v)=true then 12
 else 0
def c103:av:=⟨[0,1,2,3,5,6,7,24,42],[],[],[],[],[]⟩
theorem u9 (l:Lst) (before:List de) (v:de) (hb:before.length<=aq) (hv:v.text.length<=aq) :
  ab Tryz.prog 103 [.agg (pU l),.sl 4 none (before.map fY),.agg (fY v)] [] (.int .i64 (mr l before v)):=by
 refine tD (fn:=Tryz.f103) (code:=(Tryz.f103.body.getD .skip)) (c:=c103) rfl rfl rfl mixed (by simp [Tryz.f103]) fun X=>?_;(conv=>whnf);refine ⟨_,fun h1=>u7 v.kind v.text hv,?_⟩;(conv=>whnf);refine ⟨fun hc=>?_,fun hc=>?_⟩
 ·have hc:(decide (v.kind<1)||decide (3<v.kind)||!(ng v.kind v.text))=true:=hc;(conv=>whnf);refine ⟨congrArg (AV.int .i64) ?_,rfl⟩;unfold mr;rw [if_pos (by simpa [or_assoc] using hc)]
 have hc:(decide (v.kind<1)||decide (3<v.kind)||!(ng v.kind v.text))=false:=hc;have bN:¬ (v.kind<1\/3<v.kind\/ng v.kind v.text=false):=by intro hh;have:(decide (v.kind<1)||decide (3<v.kind)||!(ng v.kind v.text))=true:=(by simpa [or_assoc] using hh);rw [hc] at this;cases this
 (conv=>whnf);refine ⟨fun hd=>?_,fun hd=>?_⟩
 ·have hd:(decide (v.fr<1)||decide (v.to<v.fr)||decide (l.iO<v.to))=true:=hd;(conv=>whnf);refine ⟨congrArg (AV.int .i64) ?_,rfl⟩;unfold mr;rw [if_neg bN,if_pos (by simpa [or_assoc] using hd)]
 have hd:(decide (v.fr<1)||decide (v.to<v.fr)||decide (l.iO<v.to))=false:=hd;have db:¬ (v.fr<1\/v.to<v.fr\/l.iO<v.to):=by intro hh;have:(decide (v.fr<1)||decide (v.to<v.fr)||decide (l.iO<v.to))=true:=(by simpa [or_assoc] using hh);rw [hd] at this;cases this
 (conv=>whnf);refine ab.k0 (u6 before hb 150 [.ai (fY v)] (nd v) (fun w _=>s9 v w)) ?_;(conv=>whnf);refine ⟨fun he=>?_,fun he=>?_⟩
 ·have he:before.any (nd v)=true:=he;(conv=>whnf);refine ⟨congrArg (AV.int .i64) ?_,rfl⟩;unfold mr;rw [if_neg bN,if_neg db,if_pos he]
 have he:before.any (nd v)=false:=he;(conv=>whnf);refine ⟨congrArg (AV.int .i64) ?_,rfl⟩;unfold mr;rw [if_neg bN,if_neg db,if_neg (by rw [he];decide)]
end Go.Abs.Wall
namespace Go.Abs.Wall
open Go Go.Abs Go.Proofs
def Below {α:Type} (p:α->Bool) (l:List α) (i:Nat):Prop:=∀ j y,j<i->l[j]?=some y->p y=false
theorem Below.zero {α:Type} {p:α->Bool} {l:List α}:Below p l 0:=fun j y h=>by omega
theorem Below.succ {α:Type} {p:α->Bool} {l:List α} {i:Nat} {x:α} (h:Below p l i) (hx:l[i]?=some x) (hp:p x=false):Below p l (i+1):=by
 intro j y hj hy;rcases Nat.lt_succ_iff_lt_or_eq.1 hj with h'|rfl
 ·exact h j y h' hy
 rw [hx] at hy;cases hy;exact hp
theorem Below.at {α:Type} {p:α->Bool} {l:List α} {i:Nat} {x:α} (hb:Below p l i) (hx:l[i]?=some x) (hp:p x=true):kX p l=(i:Int):=by obtain ⟨h1,h2⟩:=List.getElem?_eq_some_iff.1 hx;exact Sk h1 (by rw [h2];exact hp) (fun j hj=>hb j _ hj (List.getElem?_eq_getElem (by omega)))
theorem Below.all {α:Type} {p:α->Bool} {l:List α} {i:Nat} (hb:Below p l i) (hi:l.length<=i):∀ y∈l,p y=false:=by intro y hy;obtain ⟨j,hj,rfl⟩:=List.getElem_of_mem hy;exact hb j _ (by omega) (List.getElem?_eq_getElem hj)
theorem Below.end {α:Type} {p:α->Bool} {l:List α} {i:Nat} (hb:Below p l i) (hi:l.length<=i):kX p l = -1:=
 Sl (fun j hj=>hb.all hi _ (List.getElem_mem hj))
def c82:av:=⟨[0,1,4,5,7,8,9,16],[],[],[],[],[]⟩
def c40:av:=⟨[0,1,4],[],[],[],[],[]⟩
theorem v7 (l:List Int) (hl:l.length<=aq) (f:FuncId) (bP:List AV) (p:Int->Bool) (hp:∀ w∈l,ab Tryz.prog f (.int .i64 w::bP) [] (.bool (p w))) :
  ab Tryz.prog 82 [.sl 1 none (ints l),.fn f bP] [] (.int .i64 (kX p l)):=by
 refine aA (F:=Tryz.f82) c82 rfl rfl rfl mixed rfl fun X=>?_;(conv=>whnf);unfold aq at hl;refine bS rfl mixed [0,1,7,8] [] (fun m r h=>∃ (i:Nat),r=[(0,[],.sl 1 none (ints l)),(1,[],.fn f bP),(7,[],.int .i64 (ints l).length),(8,[],.int .i64 i)]/\h=[]/\m=l.length - i/\i<=l.length/\Below p l i) ?_ ?_
 ·(conv=>whnf);exact ⟨_,0,rfl,rfl,rfl,by omega,.zero⟩
 rintro m r h ⟨i,rfl,rfl,rfl,hi,hg⟩;(conv=>whnf);refine ⟨fun hc=>?_,fun hc=>?_⟩<;>simp at hc
 ·obtain ⟨x,hx⟩:=aF hc;(conv=>whnf);repeat ((first|refine ix (by assumption) ?_|(refine ab.k0 (hp x (List.mem_of_getElem? hx)) ?_));conv=>whnf)
  refine ⟨fun hd=>?_,fun hd=>?_⟩
  ·(conv=>whnf);exact ⟨by rw [hg.at hx hd],rfl⟩
  (conv=>whnf);repeat (refine ⟨ag ⟨by omega,by omega⟩,?_⟩;conv=>whnf)
  exact ⟨_,by omega,i+1,rfl,rfl,rfl,by omega,hg.succ hx hd⟩
 (conv=>whnf);exact ⟨by rw [hg.end hc],rfl⟩
theorem v8 (l:List Int) (hl:l.length<=aq) (f:FuncId) (bP:List AV) (p:Int->Bool) (hp:∀ w∈l,ab Tryz.prog f (.int .i64 w::bP) [] (.bool (p w))) :
  ab Tryz.prog 40 [.sl 1 none (ints l),.fn f bP] [] (.bool (l.any p)):=by
 refine aA (F:=Tryz.f40) c40 rfl rfl rfl mixed rfl fun X=>?_;(conv=>whnf);refine ab.k0 (v7 l hl f bP p hp) ?_;(conv=>whnf);exact ⟨congrArg AV.bool (zo p l),rfl⟩
end Go.Abs.Wall
namespace Go.Abs.Wall
open Go Go.Abs Go.Proofs
def rf (l:Lst) (vs:List de):List de->Nat->Int
 | [],_=>0
 | v::t,i=>if mr l (vs.take i) v≠0 then mr l (vs.take i) v else rf l vs t (i+1)
def jV (l:Lst) (s:eN):Int:=
 if s.wide<1\/12<s.wide\/s.high<1\/12<s.high then 11
 else if 12<s.values.length then 2
 else rf l s.values s.values 0
def si (l:Lst):List eN->List (List UInt8)->Int
 | [],_=>0
 | s::t,seen=>if pT s.code=false\/s.code∈seen then 10 else if jV l s≠0 then jV l s else si l t (seen++[s.code])
def ln (l:Lst):Int:=
 if 200<l.aK.length then 2
 else if l.iO<1\/9<l.iO then 13
 else si l l.aK []
structure LN (s:eN):Prop where
 code:s.code.length<=aq
 values:s.values.length<=aq
 texts:∀ v∈s.values,v.text.length<=aq
structure zR (l:Lst):Prop where
 aK:l.aK.length<=aq
 each:∀ s∈l.aK,LN s
theorem eqStr (a b:List UInt8):jD Tryz.prog 9 (.str a) (.str b)=some (decide (a=b)):=rfl
theorem LO:pg Tryz.prog 9=true:=by decide +kernel
def zT (seen:List (List UInt8)):List (List UInt8 × Int):=seen.map fun c=>(c,1)
theorem Sm (c:List UInt8) (seen:List (List UInt8)):(dP c (zT seen)).getD 0=if c∈seen then 1 else 0:=by
 induction seen with
 | nil=>rfl
 | cons a t ih=>
   unfold zT at ih ⊢;simp only [List.map_cons,dP,List.mem_cons];by_cases h:c=a
   ·simp [h]
   simp [h,ih]
theorem w6 (c:List UInt8) (seen:List (List UInt8)) (h:c ∉ seen):xj c 1 (zT seen)=zT (seen++[c]):=by
 induction seen with
 | nil=>rfl
 | cons a t ih=>
   simp only [List.mem_cons,not_or] at h;unfold zT at ih ⊢;simp only [List.map_cons,xj,List.cons_append];rw [if_neg h.1,ih h.2]
def c62:av:=⟨[0,1,2,3,5,6,7,8,12,20,23,24,25,26,39,62,66,68,69,70,71,83],[],[5,7],[],[(19,[0,1,2,3,4,5,6,7],[])],[]⟩
set_option maxHeartbeats 1000000 in
theorem w7 (l:Lst) (hl:zR l):ab Tryz.prog 62 [.agg (pU l)] [] (.int .i64 (ln l)):=by
 have kj:=hl.aK;unfold aq at kj;refine ab.AL (aA (F:=Tryz.f62) c62 rfl rfl rfl mixed rfl fun X=>?_);(conv=>whnf);refine ⟨fun hc=>?_,fun hc=>?_⟩<;>simp at hc
 ·(conv=>whnf);rw [ln,if_pos (by omega)]
 (conv=>whnf);refine ⟨fun hd=>?_,fun hd=>?_⟩<;>simp at hd
 ·(conv=>whnf);rw [ln,if_neg (by omega),if_pos (by omega)]
 have qG:ln l=si l l.aK []:=(by rw [ln,if_neg (by omega),if_neg (by omega)]);(conv=>whnf);intro bm;(conv=>whnf);refine bS rfl mixed [1,3,23,24,25] [] (fun m r h=>∃ (i:Nat) (seen:List (List UInt8)),r=[(1,[],.ai (pU l)),(3,[],.omap bm),(23,[],.sl 5 none (l.aK.map hZ)),(24,[],.int .i64 (l.aK.map hZ).length),(25,[],.int .i64 i)]/\h=[(bm,.map (pI AV.str (AV.int .i64) (zT seen)))]/\m=l.aK.length - i/\i<=l.aK.length/\ln l=si l (l.aK.drop i) seen) ?_ ?_
 ·(conv=>whnf);exact ⟨_,0,[],rfl,rfl,rfl,by omega,qG⟩
 rintro m r h ⟨i,seen,rfl,rfl,rfl,hi,hr⟩;(conv=>whnf);refine ⟨fun he=>?_,fun he=>?_⟩<;>simp at he
 ·obtain ⟨s,hx⟩:=aF he;have hf:=hl.each s (List.mem_of_getElem? hx);rw [drop_cons hx,si] at hr;(conv=>whnf);repeat ((first|refine ix (by assumption) ?_|refine ⟨_,_,bj.here _,⟨Nat.le_of_ble_eq_true rfl,rfl⟩,?_⟩|intro (nb:Nat));conv=>whnf)
  refine ab.k0 (validCode s.code hf.code) ?_;(conv=>whnf);refine QO (List.mem_singleton.2 rfl) eqStr LO ?_;(conv=>whnf);rw [Sm];refine ⟨fun bJ=>?_,fun bJ=>?_⟩
  ·have bJ:pT s.code=false\/s.code∈seen:=by
    by_cases hm:s.code∈seen
    ·exact .inr hm
    simp [hm] at bJ;exact .inl bJ
   (conv=>whnf);rw [hr,if_pos bJ]
  have bJ:¬ (pT s.code=false\/s.code∈seen):=by
   by_cases hm:s.code∈seen
   ·simp [hm] at bJ
   simp [hm] at bJ;simp [hm,bJ]
  rw [if_neg bJ] at hr;(conv=>whnf);refine QO (List.mem_singleton.2 rfl) eqStr LO ?_;rw [Sm];have Ej:s.code ∉ seen:=fun h=>bJ (.inr h);rw [if_neg Ej];(conv=>whnf);repeat (refine ⟨ag ⟨by omega,by omega⟩,?_⟩;conv=>whnf)
  refine Pt eqStr LO (cP.here _) ?_;rw [show (0:Int)+1=1 from rfl,w6 _ _ Ej];(conv=>whnf);refine ⟨fun hz=>?_,fun hz=>?_⟩<;>simp at hz
  ·have zV:jV l s=11:=(by rw [jV,if_pos (by omega)]);rw [zV,if_pos (by decide)] at hr;(conv=>whnf);rw [hr]
  (conv=>whnf);refine ⟨fun hy=>?_,fun hy=>?_⟩<;>simp at hy
  ·have zV:jV l s=2:=(by rw [jV,if_neg (by omega),if_pos (by omega)]);rw [zV,if_pos (by decide)] at hr;(conv=>whnf);rw [hr]
  have zV:jV l s=rf l s.values s.values 0:=(by rw [jV,if_neg (by omega),if_neg (by omega)]);have yn:=hf.values;unfold aq at yn;(conv=>whnf);refine bS rfl mixed [1,3,5,23,24,25,68,69,70] [] (fun m r h=>∃ (j:Nat),r=[(1,[],.ai (pU l)),(3,[],.omap bm),(5,[],.ai (hZ s)),(23,[],.sl 5 none (l.aK.map hZ)),(24,[],.int .i64 (l.aK.map hZ).length),(25,[],.int .i64 i),(68,[],.sl 4 none (s.values.map fY)),(69,[],.int .i64 (s.values.map fY).length),(70,[],.int .i64 j)]/\h=[(bm,.map (pI AV.str (AV.int .i64) (zT (seen++[s.code]))))]/\m=s.values.length - j/\j<=s.values.length/\jV l s=rf l s.values (s.values.drop j) j) ?_ ?_
  ·(conv=>whnf);exact ⟨_,0,rfl,rfl,rfl,by omega,zV⟩
  rintro m r h ⟨j,rfl,rfl,rfl,hj,hv⟩;(conv=>whnf);refine ⟨fun ha=>?_,fun ha=>?_⟩<;>simp at ha
  ·obtain ⟨v,rN⟩:=aF ha;have LP:=hf.texts v (List.mem_of_getElem? rN);rw [drop_cons rN,rf] at hv;(conv=>whnf);repeat ((first|refine ix (by assumption) ?_|refine ⟨_,_,bj.here _,⟨Nat.le_of_ble_eq_true rfl,rfl⟩,?_⟩|refine And.intro (by show aJ (aH Tryz.f62 _) _=true;decide +kernel) ?_|intro (nb:Nat));conv=>whnf)
   refine ⟨⟨by omega,by omega,by simp;omega⟩,?_⟩;have hq:=u9 l (s.values.take j) v (by simp [aq];omega) LP;rw [List.map_take] at hq;(conv=>whnf);refine aY hq ?_;(conv=>whnf);refine ⟨fun hu=>?_,fun hu=>?_⟩<;>simp at hu
   ·rw [if_pos hu] at hv;rw [hv,if_pos hu] at hr;(conv=>whnf);rw [hr]
   rw [if_neg (by simpa using hu)] at hv;(conv=>whnf);repeat (refine ⟨ag ⟨by omega,by omega⟩,?_⟩;conv=>whnf)
   exact ⟨_,by omega,j+1,rfl,rfl,rfl,by omega,hv⟩
  rw [drop_nil ha,rf] at hv;rw [hv,if_neg (by decide)] at hr;(conv=>whnf);repeat (refine ⟨ag ⟨by omega,by omega⟩,?_⟩;conv=>whnf)
  exact ⟨_,by omega,i+1,_,rfl,rfl,rfl,by omega,hr⟩
 rw [drop_nil he] at hr;(conv=>whnf);rw [hr];rfl
end Go.Abs.Wall
namespace Go.Abs.Wall
open Go Go.Abs Go.Proofs
def c173:av:=⟨[0,1,2,6],[],[],[],[],[]⟩
def c127:av:=⟨[0,2,3,17,21,42],[],[],[],[],[]⟩
def c177:av:=⟨[0,2,3,7,14],[],[],[],[],[]⟩
def c176:av:=⟨[0,2,3,7,21],[],[],[],[],[]⟩
def c174:av:=⟨[0,1,4,12,14],[],[],[],[],[]⟩
theorem Bw (c lo hi:Int):ab Tryz.prog 173 [.int .u8 c,.int .u8 lo,.int .u8 hi] [] (.bool (decide (lo<=c)&&decide (c<=hi))):=by refine aA (F:=Tryz.f173) c173 rfl rfl rfl mixed rfl fun X=>?_;(conv=>whnf);exact ⟨rfl,rfl⟩
theorem LQ (y:UInt8) (a b:Nat):(decide ((a:Int)<=(y.toNat:Int))&&decide ((y.toNat:Int)<=(b:Int)))=(decide (a<=y.toNat)&&decide (y.toNat<=b)):=by rw [xO,xP]
theorem LR (y:UInt8):(decide ((97:Int)<=(y.toNat:Int))&&decide ((y.toNat:Int)<=122))=small y:=LQ y 97 122
theorem LU (y:UInt8):(decide ((65:Int)<=(y.toNat:Int))&&decide ((y.toNat:Int)<=90))=lR y:=LQ y 65 90
theorem w8 (y:UInt8):(decide ((48:Int)<=(y.toNat:Int))&&decide ((y.toNat:Int)<=57))=digit y:=LQ y 48 57
theorem Sn (s:List UInt8) (hs:s.length<=aq):ab Tryz.prog 177 [.str s] [] (.bool (s.all small)):=by
 refine aA (F:=Tryz.f177) c177 rfl rfl rfl mixed rfl fun X=>?_;(conv=>whnf);unfold aq at hs;refine bS rfl mixed [0,3] [] (fun m r h=>∃ (i:Nat),r=[(0,[],.str s),(3,[],.int .i64 i)]/\h=[]/\m=s.length - i/\i<=s.length/\s.all small=(s.drop i).all small) ?_ ?_
 ·(conv=>whnf);exact ⟨_,0,rfl,rfl,rfl,by omega,rfl⟩
 rintro m r h ⟨i,rfl,rfl,rfl,hi,hr⟩;(conv=>whnf);refine ⟨fun hc=>?_,fun hc=>?_⟩<;>simp at hc
 ·obtain ⟨y,hx⟩:=aF hc;rw [drop_cons hx,List.all_cons] at hr;(conv=>whnf);repeat ((first|refine sx (by assumption) ?_|refine ab.k0 (Bw _ _ _) ?_);conv=>whnf)
  rw [LR];refine ⟨fun hd=>?_,fun hd=>?_⟩<;>simp at hd
  ·(conv=>whnf);exact ⟨by rw [hr,hd];rfl,rfl⟩
  rw [hd,Bool.true_and] at hr;(conv=>whnf);repeat (refine ⟨ag ⟨by omega,by omega⟩,?_⟩;conv=>whnf)
  exact ⟨_,by omega,i+1,rfl,rfl,rfl,by omega,hr⟩
 rw [drop_nil hc] at hr;(conv=>whnf);exact ⟨by rw [hr];rfl,rfl⟩
theorem Sq (s:List UInt8) (hs:s.length<=aq):ab Tryz.prog 176 [.str s] [] (.bool (s.all fun y=>small y||lR y)):=by
 refine aA (F:=Tryz.f176) c176 rfl rfl rfl mixed rfl fun X=>?_;(conv=>whnf);unfold aq at hs;refine bS rfl mixed [0,3] [] (fun m r h=>∃ (i:Nat),r=[(0,[],.str s),(3,[],.int .i64 i)]/\h=[]/\m=s.length - i/\i<=s.length/\(s.all fun y=>small y||lR y)=(s.drop i).all fun y=>small y||lR y) ?_ ?_
 ·(conv=>whnf);exact ⟨_,0,rfl,rfl,rfl,by omega,rfl⟩
 rintro m r h ⟨i,rfl,rfl,rfl,hi,hr⟩;(conv=>whnf);refine ⟨fun hc=>?_,fun hc=>?_⟩<;>simp at hc
 ·obtain ⟨y,hx⟩:=aF hc;rw [drop_cons hx,List.all_cons] at hr;(conv=>whnf);repeat ((first|refine sx (by assumption) ?_|refine ab.k0 (Bw _ _ _) ?_|refine aY (Bw _ _ _) ?_);conv=>whnf)
  rw [LR,LU];refine ⟨fun hd=>?_,fun hd=>?_⟩
  ·(conv=>whnf);exact ⟨by rw [hr];simp at hd;simp [hd],rfl⟩
  rw [show (small y||lR y)=true by simp at hd;cases h:small y<;>simp [h] at hd ⊢;exact hd,Bool.true_and] at hr
  (conv=>whnf);repeat (refine ⟨ag ⟨by omega,by omega⟩,?_⟩;conv=>whnf)
  exact ⟨_,by omega,i+1,rfl,rfl,rfl,by omega,hr⟩
 rw [drop_nil hc] at hr;(conv=>whnf);exact ⟨by rw [hr];rfl,rfl⟩
theorem w9 (s:List UInt8) (hs:s.length<=aq):ab Tryz.prog 127 [.str s] [] (.bool (pT s)):=by
 refine aA (F:=Tryz.f127) c127 rfl rfl rfl mixed rfl fun X=>?_;(conv=>whnf);unfold aq at hs;repeat ((first|(refine Yy ?_ ?_;(conv=>whnf);(intro h;simp at h;show 0<=0/\0<_;omega))|refine aY (Bw _ _ _) ?_);conv=>whnf)
 rw [LU];refine ⟨fun hc=>?_,fun hc=>?_⟩
 ·(conv=>whnf);refine ⟨congrArg AV.bool ?_,rfl⟩;symm;simp only [Bool.or_eq_true,decide_eq_true_eq,Bool.not_eq_true'] at hc;unfold pT;simp only [Bool.and_eq_false_iff,decide_eq_false_iff_not];rcases hc with (hc|hc)|hc
  ·exact .inl (.inl (.inl (by omega)))
  ·exact .inl (.inl (.inr (by omega)))
  exact .inl (.inr hc)
 have oI:(decide (1<=s.length)&&decide (s.length<=8)&&lR (s[0]?.getD 0))=true:=by simp only [Bool.or_eq_false_iff,decide_eq_false_iff_not,Bool.not_eq_false'] at hc;simp only [Bool.and_eq_true,decide_eq_true_eq];exact ⟨by omega,hc.2⟩
 have qk:pT s=s.all uM:=by unfold pT;rw [oI];rfl
 (conv=>whnf);refine bS rfl mixed [0,3] [] (fun m r h=>∃ (i:Nat),r=[(0,[],.str s),(3,[],.int .i64 i)]/\h=[]/\m=s.length - i/\i<=s.length/\pT s=(s.drop i).all uM) ?_ ?_
 ·(conv=>whnf);exact ⟨_,0,rfl,rfl,rfl,by omega,qk⟩
 rintro m r h ⟨i,rfl,rfl,rfl,hi,hr⟩;(conv=>whnf);refine ⟨fun hc=>?_,fun hc=>?_⟩<;>simp at hc
 ·obtain ⟨y,hx⟩:=aF hc;rw [drop_cons hx,List.all_cons] at hr;(conv=>whnf);repeat ((first|refine sx (by assumption) ?_|refine ab.k0 (Bw _ _ _) ?_|refine aY (Bw _ _ _) ?_);conv=>whnf)
  rw [LR,LU,w8];refine ⟨fun hd=>?_,fun hd=>?_⟩
  ·(conv=>whnf);refine ⟨congrArg AV.bool ?_,rfl⟩;rw [hr,show uM y=false by unfold uM;revert hd;cases small y<;>cases lR y<;>cases digit y<;>decide];rfl
  rw [show uM y=true by unfold uM;revert hd;cases small y<;>cases lR y<;>cases digit y<;>decide,Bool.true_and] at hr
  (conv=>whnf);repeat (refine ⟨ag ⟨by omega,by omega⟩,?_⟩;conv=>whnf)
  exact ⟨_,by omega,i+1,rfl,rfl,rfl,by omega,hr⟩
 rw [drop_nil hc] at hr;(conv=>whnf);exact ⟨by rw [hr];rfl,rfl⟩
theorem x9 (kind:Int) (s:List UInt8) (hs:s.length<=aq):ab Tryz.prog 174 [.int .i64 kind,.str s] [] (.bool (ng kind s)):=by
 refine aA (F:=Tryz.f174) c174 rfl rfl rfl mixed rfl fun X=>?_;(conv=>whnf);refine ⟨fun hc=>?_,fun hc=>?_⟩<;>simp at hc
 ·(conv=>whnf);refine ⟨congrArg AV.bool ?_,rfl⟩;unfold ng;symm;simp only [Bool.and_eq_false_iff,decide_eq_false_iff_not];omega
 have oI:(decide (1<=s.length)&&decide (s.length<=8))=true:=by simp only [Bool.and_eq_true,decide_eq_true_eq];omega
 (conv=>whnf);refine ⟨fun hk=>?_,fun hk=>?_⟩<;>simp at hk
 ·(conv=>whnf);repeat (refine ab.k0 (Sn s hs) ?_;conv=>whnf)
  refine ⟨congrArg AV.bool ?_,rfl⟩;unfold ng;rw [oI,Bool.true_and];congr 1;funext y;unfold Bv;simp [hk]
 (conv=>whnf);repeat (refine ab.k0 (Sq s hs) ?_;conv=>whnf)
 refine ⟨congrArg AV.bool ?_,rfl⟩;unfold ng;rw [oI,Bool.true_and];congr 1;funext y;unfold Bv;simp [hk]
end Go.Abs.Wall
namespace Go.Abs.Wall
open Go Go.Abs Go.Proofs
def c175:av:=⟨[0,1,2,3,4],[],[],[],[],[]⟩
def c128:av:=⟨[0,1,2,4,5,10,20],[],[],[],[],[]⟩
def c129:av:=⟨[0,1,2,4,5,6,7,25,29,34,57,73,76,85],[],[6],[],[(16,[0,1,2,3,4,5,6],[])],[]⟩
def c86:av:=⟨[0,1,2,3,4,8,16,21,43,53],[],[],[],[(8,[0,1,2,3,4,5,6,7,8,9,10,11,12,13,14,15,16,17,18,19],[]),(10,[0,1,2,3,4,5,6,7,8],[])],[]⟩
theorem y0 (a b:de):ab Tryz.prog 175 [.agg (fY a),.agg (fY b)] [] (.bool (nd b a)):=by
 refine aA (F:=Tryz.f175) c175 rfl rfl rfl mixed rfl fun X=>?_;(conv=>whnf);skip;refine ⟨congrArg AV.bool ?_,rfl⟩;unfold nd;rw [Bool.eq_iff_iff];simp only [Bool.and_eq_true,decide_eq_true_eq];constructor
 ·rintro ⟨⟨⟨h1,h2⟩,h3⟩,h4⟩;exact ⟨⟨⟨h1.symm,h2.symm,trivial⟩,h4⟩,h3⟩
 rintro ⟨⟨⟨h1,h2,_⟩,h4⟩,h3⟩;exact ⟨⟨⟨h1.symm,h2.symm⟩,h3⟩,h4⟩
theorem y4 (l:Lst) (c:List UInt8) (hl:zR l):ab Tryz.prog 128 [.agg (pU l),.str c] [] (.int .i64 (kX (fun s:eN=>decide (s.code=c)) l.aK)):=by
 refine aA (F:=Tryz.f128) c128 rfl rfl rfl mixed rfl fun X=>?_;(conv=>whnf);have kj:=hl.aK;unfold aq at kj;refine bS rfl mixed [1,2,5] [] (fun m r h=>∃ (i:Nat),r=[(1,[],.str c),(2,[],.ai (pU l)),(5,[],.int .i64 i)]/\h=[]/\m=l.aK.length - i/\i<=l.aK.length/\Below (fun s:eN=>decide (s.code=c)) l.aK i) ?_ ?_
 ·(conv=>whnf);exact ⟨_,0,rfl,rfl,rfl,by omega,.zero⟩
 rintro m r h ⟨i,rfl,rfl,rfl,hi,hg⟩;(conv=>whnf);refine ⟨fun hc=>?_,fun hc=>?_⟩<;>simp at hc
 ·obtain ⟨x,hx⟩:=aF hc;(conv=>whnf);repeat (refine ix (by assumption) ?_;conv=>whnf)
  refine ⟨fun hd=>?_,fun hd=>?_⟩
  ·(conv=>whnf);exact ⟨by rw [hg.at hx hd],rfl⟩
  (conv=>whnf);repeat (refine ⟨ag ⟨by omega,by omega⟩,?_⟩;conv=>whnf)
  exact ⟨_,by omega,i+1,rfl,rfl,rfl,by omega,hg.succ hx hd⟩
 (conv=>whnf);exact ⟨by rw [hg.end hc],rfl⟩
theorem y5 (l:Lst) (s:eN) (hf:LN s):ab Tryz.prog 129 [.agg (hZ s),.int .i64 l.iO] [] (.int .i64 (jV l s)):=by
 refine aA (F:=Tryz.f129) c129 rfl rfl rfl mixed rfl fun X=>?_;(conv=>whnf);have yn:=hf.values;unfold aq at yn;refine ⟨fun hz=>?_,fun hz=>?_⟩<;>simp at hz
 ·(conv=>whnf);exact ⟨by rw [jV,if_pos (by omega)],rfl⟩
 (conv=>whnf);refine ⟨fun hy=>?_,fun hy=>?_⟩<;>simp at hy
 ·(conv=>whnf);exact ⟨by rw [jV,if_neg (by omega),if_pos (by omega)],rfl⟩
 have zV:jV l s=rf l s.values s.values 0:=(by rw [jV,if_neg (by omega),if_neg (by omega)]);(conv=>whnf);refine bS rfl mixed [1,2,5] [] (fun m r h=>∃ (i:Nat),r=[(1,[],.int .i64 l.iO),(2,[],.ai (hZ s)),(5,[],.int .i64 i)]/\h=[]/\m=s.values.length - i/\i<=s.values.length/\jV l s=rf l s.values (s.values.drop i) i) ?_ ?_
 ·(conv=>whnf);exact ⟨_,0,rfl,rfl,rfl,by omega,zV⟩
 rintro m r h ⟨i,rfl,rfl,rfl,hi,hr⟩;(conv=>whnf);refine ⟨fun hc=>?_,fun hc=>?_⟩<;>simp at hc
 ·obtain ⟨v,hx⟩:=aF hc;have LP:=hf.texts v (List.mem_of_getElem? hx);rw [drop_cons hx,rf] at hr;(conv=>whnf);repeat ((first|refine ix (by assumption) ?_|refine aY (x9 v.kind v.text LP) ?_|refine ⟨_,_,bj.here _,⟨Nat.le_of_ble_eq_true rfl,rfl⟩,?_⟩|intro (nb:Nat));conv=>whnf)
  refine ⟨fun hd=>?_,fun hd=>?_⟩
  ·have he:mr l (s.values.take i) v=12:=by unfold mr;rw [if_pos (by simpa [or_assoc] using hd)]
   rw [he,if_pos (by decide)] at hr;(conv=>whnf);exact ⟨by rw [hr],rfl⟩
  have db:¬ (v.kind<1\/3<v.kind\/ng v.kind v.text=false):=by intro hh;have:(decide (v.kind<1)||decide (3<v.kind)||!(ng v.kind v.text))=true:=(by simpa [or_assoc] using hh);rw [hd] at this;cases this
  (conv=>whnf);skip;refine ⟨fun he=>?_,fun he=>?_⟩
  ·have he:mr l (s.values.take i) v=13:=by unfold mr;rw [if_neg db,if_pos (by simpa [or_assoc] using he)]
   rw [he,if_pos (by decide)] at hr;(conv=>whnf);exact ⟨by rw [hr],rfl⟩
  have BQ:¬ (v.fr<1\/v.to<v.fr\/l.iO<v.to):=by intro hh;have:(decide (v.fr<1)||decide (v.to<v.fr)||decide (l.iO<v.to))=true:=(by simpa [or_assoc] using hh);rw [he] at this;cases this
  have qE:mr l (s.values.take i) v=if (s.values.take i).any (nd v)=true then 12 else 0:=by unfold mr;rw [if_neg db,if_neg BQ]
  (conv=>whnf);refine bS rfl mixed [1,2,5,6,7] [] (fun m r h=>∃ (k:Nat),r=[(1,[],.int .i64 l.iO),(2,[],.ai (hZ s)),(5,[],.int .i64 i),(6,[],.ai (fY v)),(7,[],.int .i64 k)]/\h=[]/\m=i - k/\k<=i/\Below (nd v) (s.values.take i) k) ?_ ?_
  ·(conv=>whnf);exact ⟨_,0,rfl,rfl,rfl,by omega,.zero⟩
  rintro m r h ⟨k,rfl,rfl,rfl,hk,hg⟩;(conv=>whnf);refine ⟨fun ha=>?_,fun ha=>?_⟩<;>simp at ha
  ·obtain ⟨w,y6⟩:=aF (show k<s.values.length by omega);have Sr:(s.values.take i)[k]?=some w:=by rw [List.getElem?_take_of_lt ha];exact y6
   (conv=>whnf);repeat ((first|refine ix (by assumption) ?_|refine aY (y0 w v) ?_|refine And.intro (by show aJ (aH Tryz.f129 _) _=true;decide +kernel) ?_);conv=>whnf)
   refine ⟨fun hm=>?_,fun hm=>?_⟩
   ·have:(s.values.take i).any (nd v)=true:=List.any_eq_true.2 ⟨w,List.mem_of_getElem? Sr,hm⟩;rw [qE,if_pos this,if_pos (by decide)] at hr;(conv=>whnf);exact ⟨by rw [hr],rfl⟩
   (conv=>whnf);repeat (refine ⟨ag ⟨by omega,by omega⟩,?_⟩;conv=>whnf)
   exact ⟨_,by omega,k+1,rfl,rfl,rfl,by omega,hg.succ Sr hm⟩
  have:¬ (s.values.take i).any (nd v)=true:=by intro h;obtain ⟨y,hy,hm⟩:=List.any_eq_true.1 h;rw [hg.all (by simp;omega) y hy] at hm;cases hm
  rw [qE,if_neg this,if_neg (by decide)] at hr;(conv=>whnf);repeat (refine ⟨ag ⟨by omega,by omega⟩,?_⟩;conv=>whnf)
  exact ⟨_,by omega,i+1,rfl,rfl,rfl,by omega,hr⟩
 rw [drop_nil hc] at hr;(conv=>whnf);exact ⟨by rw [hr];rfl,rfl⟩
theorem y7 {l:List eN} {i:Nat} {s:eN} (hx:l[i]?=some s):kX (fun x:eN=>decide (x.code=s.code)) l<(i:Int)↔s.code∈(l.take i).map eN.code:=by
 unfold kX;cases h:l.findIdx? (fun x:eN=>decide (x.code=s.code)) with
 | none=>
   rw [List.findIdx?_eq_none_iff] at h;have:=h s (List.mem_of_getElem? hx);simp at this
 | some j=>
   rw [List.findIdx?_eq_some_iff_getElem] at h;obtain ⟨h1,h2,h3⟩:=h;simp only [decide_eq_true_eq] at h2 h3;constructor
   ·intro aP;have aP:j<i:=(by simpa using aP);rw [<- h2];refine List.mem_map.2 ⟨l[j],?_,rfl⟩;exact List.mem_iff_getElem?.2 ⟨j,by rw [List.getElem?_take_of_lt aP];exact List.getElem?_eq_getElem h1⟩
   intro hm;obtain ⟨y,hy,hc⟩:=List.mem_map.1 hm;obtain ⟨k,hk⟩:=List.mem_iff_getElem?.1 hy;have zX:k<i:=by have:=(List.getElem?_eq_some_iff.1 hk).1;simp at this;omega
   rw [List.getElem?_take_of_lt zX] at hk;obtain ⟨cW,bg⟩:=List.getElem?_eq_some_iff.1 hk;show (j:Int)<(i:Int);by_cases y8:k<j
   ·have:=h3 k y8;rw [bg] at this;exact absurd hc this
   omega
theorem Ss (l:Lst) (hl:zR l):ab Tryz.prog 86 [.agg (pU l)] [] (.int .i64 (ln l)):=by
 have kj:=hl.aK;unfold aq at kj;refine aA (F:=Tryz.f86) c86 rfl rfl rfl mixed rfl fun X=>?_;(conv=>whnf);refine ⟨fun hc=>?_,fun hc=>?_⟩<;>simp at hc
 ·(conv=>whnf);exact ⟨by rw [ln,if_pos (by omega)],rfl⟩
 (conv=>whnf);refine ⟨fun hd=>?_,fun hd=>?_⟩<;>simp at hd
 ·(conv=>whnf);exact ⟨by rw [ln,if_neg (by omega),if_pos (by omega)],rfl⟩
 have qG:ln l=si l l.aK []:=(by rw [ln,if_neg (by omega),if_neg (by omega)]);(conv=>whnf);refine bS rfl mixed [1,3] [] (fun m r h=>∃ (i:Nat),r=[(1,[],.ai (pU l)),(3,[],.int .i64 i)]/\h=[]/\m=l.aK.length - i/\i<=l.aK.length/\ln l=si l (l.aK.drop i) ((l.aK.take i).map eN.code)) ?_ ?_
 ·(conv=>whnf);exact ⟨_,0,rfl,rfl,rfl,by omega,qG⟩
 rintro m r h ⟨i,rfl,rfl,rfl,hi,hr⟩;(conv=>whnf);refine ⟨fun he=>?_,fun he=>?_⟩<;>simp at he
 ·obtain ⟨s,hx⟩:=aF he;have hf:=hl.each s (List.mem_of_getElem? hx);have vB:(l.aK.take i).map eN.code++[s.code]=(l.aK.take (i+1)).map eN.code:=by rw [List.take_add_one,hx];simp
  rw [drop_cons hx,si,vB] at hr;simp only [<- y7 hx] at hr;(conv=>whnf);repeat ((first|refine ix (by assumption) ?_|refine aY (w9 s.code hf.code) ?_|refine aY (y4 l s.code hl) ?_|refine And.intro (by show aJ (aH Tryz.f86 _) _=true;decide +kernel) ?_);conv=>whnf)
  refine ⟨fun bJ=>?_,fun bJ=>?_⟩
  ·have bJ:pT s.code=false\/kX (fun x:eN=>decide (x.code=s.code)) l.aK<(i:Int):=by
    simpa [or_comm] using bJ
   (conv=>whnf);exact ⟨by rw [hr,if_pos bJ],rfl⟩
  have bJ:¬ (pT s.code=false\/kX (fun x:eN=>decide (x.code=s.code)) l.aK<(i:Int)):=by simp at bJ ⊢;exact ⟨bJ.1,bJ.2⟩
  rw [if_neg bJ] at hr;(conv=>whnf);repeat ((first|refine ix (by assumption) ?_|refine aY (y5 l s hf) ?_|refine And.intro (by show aJ (aH Tryz.f86 _) _=true;decide +kernel) ?_);conv=>whnf)
  refine ⟨fun hu=>?_,fun hu=>?_⟩<;>simp at hu
  ·rw [if_pos hu] at hr;(conv=>whnf);exact ⟨by rw [hr],rfl⟩
  rw [if_neg (by simpa using hu)] at hr;(conv=>whnf);repeat (refine ⟨ag ⟨by omega,by omega⟩,?_⟩;conv=>whnf)
  exact ⟨_,by omega,i+1,rfl,rfl,rfl,by omega,hr⟩
 rw [drop_nil he] at hr;(conv=>whnf);exact ⟨by rw [hr];rfl,rfl⟩
end Go.Abs.Wall
