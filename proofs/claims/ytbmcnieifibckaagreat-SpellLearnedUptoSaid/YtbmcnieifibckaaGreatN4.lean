/- What is proved: small laws for the walks of this seat, and contracts of its functions. No condition but those each theorem names. -/
import Derived.Test.YtbmcnieifibckaaGreatN3
import Derived.Shelf.SlSortCmp.WholeK
import Derived.Test.YtbmcnieifibckaaGreatProg
import Derived.Shelf.SlSortCmp.InsertionK
import Derived.Test.YtbmcnieifibckaaGreatRows
import Derived.WalkKit
import Derived.ProofKit
import Derived.OpenShut
import Derived.JoinedCond
import Derived.ReadAgain
import Derived.ChangeStays
/-
 The abstract fS,part Y: drawn regions in o8 Z4 Z5 PA made,in Z6 order.
-/
set_option linter.unusedVariables false
set_option linter.unusedSimpArgs false
namespace Go.Abs
open Go
variable {P:Program} {n:Nat} {X:Nat->Prop} {all:List Oper} {cl ord:List Nat} {r:aC}
def Sq:Op->Bool
 | .call cl=>(match cl.callee with
   | .builtin .append=>(match cl.args.toList with
     | .const (.slice none 0 0)::_=>true
     | _=>false)
   | _=>false)
 | _=>false
def makes (op:Op):Bool:=sy op||Sq op
theorem LP {r:aC} {h:af} {K:AV->af->Prop} {op:Op} (ha:makes op=true) (hq:cE P r h K op):cE P r h (fun v h'=>K v h'/\∃ x,h'=x::h) op:=by
 unfold makes at ha;rw [Bool.or_eq_true] at ha;rcases ha with ha|ha
 ·exact KU ha hq
 unfold Sq at ha;split at ha<;>try contradiction
 rename_i cl;split at ha<;>try contradiction
 rename_i cR;split at ha<;>try contradiction
 rename_i xs jM;simp only [cE,cR] at hq ⊢;split at hq<;>try contradiction
 split at hq<;>try contradiction
 split at hq<;>try contradiction
 split at hq<;>try contradiction
 split at hq<;>try contradiction
 split at hq<;>try contradiction
 split at hq
 ·split at hq<;>try contradiction
  obtain ⟨eF,ys,h1,h2,h3,h4⟩:=hq;exact ⟨eF,ys,h1,h2,h3,fun q=>⟨h4 q,_,rfl⟩⟩
 ·rename_i dq;rw [jM] at dq;unfold bS at dq;simp only [aK,oC] at dq;split at dq<;>try contradiction
  cases dq
 ·split at hq<;>try contradiction
  exact ⟨hq.1,fun q=>⟨hq.2 q,_,rfl⟩⟩
 ·rename_i dq;rw [jM] at dq;unfold bS at dq;simp only [aK,oC] at dq;split at dq<;>try contradiction
  cases dq
 ·rename_i dq;rw [jM] at dq;unfold bS at dq;simp only [aK,oC] at dq;split at dq<;>try contradiction
  cases dq
 ·rename_i dq;rw [jM] at dq;unfold bS at dq;simp only [aK,oC] at dq;split at dq<;>try contradiction
  cases dq
 ·rename_i dq;rw [jM] at dq;unfold bS at dq;simp only [aK,oC] at dq;split at dq<;>try contradiction
  cases dq
 ·exact hq.elim
 split at hq<;>try contradiction
 split at hq<;>try contradiction
 split at hq<;>try contradiction
 split at hq<;>try contradiction
 split at hq<;>try contradiction
 split at hq<;>try contradiction
 rename_i dq;rw [jM] at dq;unfold bS at dq;simp only [aK,oC] at dq;split at dq<;>try contradiction
 cases dq
theorem o9 {r:aC} {h:af} {K:AV->af->Prop} {op:Op} {own jL:List Nat} {d:Option Nat} (ha:makes op=true) (hq:gN P own jL d r h K op):gN P own jL d r h (fun v h'=>K v h'/\∃ x,h'=x::h) op:=by
 unfold gN at hq ⊢;split at hq
 ·split at hq
  ·skip;unfold uS at hq ⊢;revert hq;repeat' split
   all_goals first|exact fun hh=>hh.elim|exact fun hh=>⟨hh.1,fun b=>⟨hh.2 b,_,rfl⟩⟩
  skip;exact LP ha hq
 ·split at hq
  ·skip;unfold uT at hq ⊢;revert hq;repeat' split
   all_goals first|exact fun hh=>hh.elim|exact fun hh b=>⟨hh b,_,rfl⟩
  skip;exact LP ha hq
 exact LP ha hq
theorem gK.swap {kn cA:List Nat} {k i:Nat} (hs:gK all cl (kn++k::i::cA)) (p7:Nat.testBit (ly cl i) k=false):gK all cl (kn++i::k::cA):=by
 have po:∃ oj,all[i]?=some oj:=by obtain ⟨o2,cy,_⟩:=hs.p4 (kn++[k]) i cA (by simp);exact ⟨o2,cy⟩
 obtain ⟨oj,Hs⟩:=po;obtain ⟨o,ho,sK⟩:=hs.p4 kn k (i::cA) rfl
 have Sr:∀ e∈oj.after.toList,Region.binds .any e=true->e.on∈kn:=by
  obtain ⟨o2,cy,hh⟩:=hs.p4 (kn++[k]) i cA (by simp);rw [Hs] at cy;cases cy
  intro e he hb;have:=hh e he hb;simp only [List.mem_append,List.mem_singleton] at this;rcases this with h|h
  ·exact h
  exfalso;have:Cl cl i k:=by unfold Cl;rw [hs.e2 i _ Hs,KX];exact ⟨e,he,hb,.inl h⟩
  unfold Cl at this;rw [p7] at this;cases this
 refine ⟨hs.e1,hs.e2,?_,?_,?_,hs.n1,hs.d1⟩
 ·intro x hx;have:=hs.p2 x hx;simp only [List.mem_append,List.mem_cons] at this ⊢;rcases this with h|h|h|h
  ·exact .inl h
  ·exact .inr (.inr (.inl h))
  ·exact .inr (.inl h)
  exact .inr (.inr (.inr h))
 ·have:=hs.p3;simp only [List.nodup_append,List.nodup_cons,List.mem_cons] at this ⊢;obtain ⟨u1,⟨u2,u3,u4⟩,u5⟩:=this;refine ⟨u1,⟨?_,?_,u4⟩,?_⟩
  ·rintro (e|e)
   ·exact u2 (.inl e.symm)
   exact u3 e
  ·exact fun e=>u2 (.inr e)
  intro x hx y hy;rcases hy with e|e|e
  ·exact u5 x hx y (.inr (.inl e))
  ·exact u5 x hx y (.inl e)
  exact u5 x hx y (.inr (.inr e))
 intro pre x post p8;rcases List.append_eq_append_iff.1 p8 with ⟨a',e1,e2⟩|⟨c',e1,e2⟩
 ·cases a' with
  | nil=>
    cases e2
    exact ⟨oj,Hs,fun e he hb=>by rw [e1];simpa using Sr e he hb⟩
  | cons z a'=>
    cases a' with
    | nil=>
      cases e2
      exact ⟨o,ho,fun e he hb=>by rw [e1];simp [sK e he hb]⟩
    | cons z2 a'=>
      injection e2 with e3 e4;injection e4 with e5 e6;obtain ⟨o2,cy,hh⟩:=hs.p4 (kn++k::i::a') x post (by rw [e6];simp);refine ⟨o2,cy,fun e he hb=>?_⟩;have:=hh e he hb;rw [e1,<- e3,<- e5];simp only [List.mem_append,List.mem_cons] at this ⊢;rcases this with h|h|h|h
      ·exact .inl h
      ·exact .inr (.inr (.inl h))
      ·exact .inr (.inl h)
      exact .inr (.inr (.inr h))
 cases c' with
 | nil=>
   simp at e2;obtain ⟨e3,e4⟩:=e2;subst e3;exact ⟨oj,Hs,fun e he hb=>by have:=Sr e he hb;rw [e1] at this;simpa using this⟩
 | cons z c'=>
   simp at e2;obtain ⟨e3,e4⟩:=e2;subst e3;exact hs.p4 pre x (c'++k::i::cA) (by rw [e1];simp)
theorem p9 {own jL:List Nat} {K:aC->af->Prop} {Rg:List Nat->List Nat->aC->af->Prop} {Q:Exit->Act->World->Prop} (hs:gK all cl ord) {fuel i:Nat} {rest kn nf:List Nat} {al:List (Nat × Nat × G × AV)} {h:af} {L:Array Bool} {g0:Gh} {a:Act} {w:World} {o:Oper}
  (hi:iD n P all cl ord r kn (i::rest) nf al h L) (ho:all[i]?=some o) (zr:all.toArray[i]?=some o) (eJ:o.guard=none) (Ss:(makes o.op||(calm (bK al r) o.op&&uV cl all i nf))=true) (dW:L.getD i false=false)
  (he:∀ e∈o.after.toList,Region.binds .any e=true->L.getD e.on false=true)
  (hr:gN P own jL o.dst (bK al r) h (fun v h'=>fT n o.dst [] v (bK al r) fun r'=>Rg rest nf r' h') o.op) (hc:bN n X g0 (bK (dC L al) r) h a w) (hu:pU all.length L<=fuel+1)
  (IH:∀ (rest kn nf:List Nat) (al:List (Nat × Nat × G × AV)) (h:af) (L:Array Bool) (g0:Gh) (a:Act) (w:World),
    iD n P all cl ord r kn rest nf al h L->Rg rest nf (bK al r) h->bN n X g0 (bK (dC L al) r) h a w->pU all.length L<=fuel ->
    (∀ r' h' g' a' w',K r' h'->bN n X g' r' h' a' w'->Step X g0 h w g' h' w'->Q .normal a' w')->wpAny P .any all.toArray Q fuel L a w)
  (hf:∀ r' h' g' a' w',K r' h'->bN n X g' r' h' a' w'->Step X g0 h w g' h' w'->Q .normal a' w') :
  wpOp P all.toArray Q i (wpAny P .any all.toArray Q fuel (L.setIfInBounds i true)) a w:=by
 have mE:i∈ord:=by rw [hi.split];simp
 have jG:i ∉ kn:=by have:=hs.p3;rw [hi.split,List.nodup_append] at this;exact fun hm=>this.2.2 i hm i (by simp) rfl
 obtain ⟨aI,_⟩:=hi.lt hs mE;have oc:i<all.length:=by rw [<- hi.kO];exact aI
 have jv:=dW;have sK:∀ e∈o.after.toList,Region.binds .any e=true->e.on∈kn:=by obtain ⟨o2,cy,hh⟩:=hs.p4 kn i rest hi.split;rw [ho] at cy;cases cy;exact hh
 have tA:∀ j,Cl cl i j->j∈kn:=by
  intro j hj
  have:=(tw hs (S:=fun x=>x∈kn\/x=i) (fun x hS=>by
   rcases hS with hS|rfl
   ·obtain ⟨o',bH,hh⟩:=hi.DC hs x hS;exact ⟨o',bH,fun e a b=>.inl (hh e a b)⟩
   exact ⟨o,ho,fun e a b=>.inl (sK e a b)⟩) i (.inr rfl) j hj)
  rcases this.1 with h|rfl
  ·exact h
  exact absurd this.2 (Nat.lt_irrefl _)
 have qY:∀ t∈jq all o,mD all cl al r i t (bp (bK al r) t):=by intro t ht;refine zp hi hs ho (fun x hx=>hx) (fun j hj=>⟨tA j hj,fun x hx _=>hx⟩) ?_ t ht;intro x hx jV;exact jG (hi.qW hs (hi.gL x hx).1 jV).1
 have rV:∀ j,Cl cl i j->L.getD j false=true:=by
  intro j hj
  have:=(tw hs (S:=fun x=>L.getD x false=true\/x=i) (fun x hS=>by
   rcases hS with hS|rfl
   ·obtain ⟨o',bH,hh⟩:=hi.tz x hS;exact ⟨o',bH,fun e a b=>.inl (hh e a b)⟩
   exact ⟨o,ho,fun e a b=>.inl (he e a b)⟩) i (.inr rfl) j hj)
  rcases this.1 with h|rfl
  ·exact h
  exact absurd this.2 (Nat.lt_irrefl _)
 unfold wpOp;simp only [zr,Gq eJ,if_true];left;have xv:∀ j,Cl cl i j->Cl cl j i->False:=fun j a b=>jG (hi.qW hs (tA j a) b).1
 have Lk:∀ t∈ru o.op.operands.toList,bp (bK al r) t=bp (bK (dC L al) r) t:=by
  intro t ht;have DJ:t∈jq all o:=by unfold jq;exact List.mem_append_right _ ht
  refine La hi hs (qY t DJ) (zp hi hs ho (fun x hx=>(pT.1 hx).1) ?_ ?_ t DJ) xv
  ·intro j hj;exact ⟨tA j hj,fun x hx DF=>pT.2 ⟨hx,by rw [DF];exact rV j hj⟩⟩
  intro x hx jV;exact jG (hi.qW hs (hi.gL x (pT.1 hx).1).1 jV).1
 -- the heap behind it
 have vI:gN P own jL o.dst (bK (dC L al) r) h (fun v h'=>(fT n o.dst [] v (bK al r) fun r'=>Rg rest nf r' h')/\(makes o.op=true->∃ x,h'=x::h)/\(calm (bK al r) o.op=true->Kept h h')) o.op:=by
  have oV:gN P own jL o.dst (bK al r) h (fun v h'=>(fT n o.dst [] v (bK al r) fun r'=>Rg rest nf r' h')/\(calm (bK al r) o.op=true->Kept h h')) o.op:=by
   by_cases fK:calm (bK al r) o.op=true
   ·exact oa (fun v h' hh=>⟨hh.1,fun _=>hh.2⟩) (Rp fK hr)
   exact oa (fun v h' hh=>⟨hh,fun hy=>absurd hy fK⟩) hr
  have qM:=QZ Lk oV;by_cases jy:makes o.op=true
  ·have:=o9 jy qM;exact oa (fun v h' hh=>⟨hh.1.1,fun _=>hh.2,hh.1.2⟩) this
  exact oa (fun v h' hh=>⟨hh.1,fun hy=>absurd hy jy,hh.2⟩) qM
 refine Kf vI hc ?_;rintro v h' g' u w' ⟨jD,hx,Bk⟩ cV cN aF
 have DK:∀ k'∈kn,(L.setIfInBounds i true).getD k' false=false->∃ o g v Rk,all[k']?=some o/\dN P all Rk h' (fun g' v'=>g'=g/\v'=v) o /\
   (∀ t∈jq all o,mD all cl al r k' t (bp Rk t)) /\
   (∀ d,o.dst=some d->(k',d,g,v)∈al/\d<n/\(∀ e∈g,e.1≠d)/\∀ t gg v,bp r t=some (gg,v)->∀ e∈gg,e.1≠d) /\
   (k' ∉ nf->∀ h',dN P all Rk h' (fun g' v'=>g'=g/\v'=v) o):=by
  intro k' bq fF
  have hl:L.getD k' false=false:=by
   cases hb:L.getD k' false with
   | false=>rfl
   | true=>rw [getD_set_true hb] at fF;cases fF
  obtain ⟨o',g2,v2,Rk,q1,q2,q3,q4,q5⟩:=hi.fact k' bq hl;refine ⟨o',g2,v2,Rk,q1,?_,q3,q4,q5⟩;by_cases jy:makes o.op=true
  ·obtain ⟨x,rfl⟩:=hx jy;exact GV (fun g K hh=>QY hh) q2
  rw [Bool.or_eq_true] at Ss;have zH:=Ss.resolve_left jy;rw [Bool.and_eq_true] at zH;by_cases xx:k'∈nf
  ·rcases GY zH.2 k' xx with h1|⟨o2,h1,h2⟩
   ·have:=rV k' h1;rw [hl] at this;cases this
   rw [q1] at h1;cases h1
   exact GV (fun g K hh=>Rn h2 (Bk zH.1) hh) q2
  exact q5 xx h'
 have DL:∀ {p:Prop},(L.setIfInBounds i true).getD i false=false->p:=by intro p hh;have:(L.setIfInBounds i true).getD i false=true:=(by simp [aI]);rw [this] at hh;cases hh
 have AL:∀ r2 h2 g2 a2 w2,K r2 h2->bN n X g2 r2 h2 a2 w2->Step X g' h' w' g2 h2 w2->Q .normal a2 w2:=
  fun r2 h2 g2 a2 w2 hK ck nc=>hf r2 h2 g2 a2 w2 hK ck (aF.trans hc.cw.own nc)
 have zm:pU all.length (L.setIfInBounds i true)<=fuel:=by have:=DE oc hi.kO.symm jv;omega
 cases hd:o.dst with
 | none=>
   rw [hd] at jD;have dO:=hi.enter (n:=n) (P:=P) (g:=[]) (v:=v) (eB:=al) (qX:=nf) (h':=h') (L':=L.setIfInBounds i true) hs ho (by rw [hd]) (by simp) (.inr ⟨rfl,he⟩) DK DL;refine IH rest _ nf al h' _ g' _ w' dO jD ?_ zm AL;have hE:dC (L.setIfInBounds i true) al=dC L al:=by unfold dC;refine List.filter_congr fun x hx=>?_;exact getD_set_ne false (fun e=>jG (e ▸ (hi.gL x hx).1))
   rw [hE];simpa [Act.put] using hc.step cV aF
 | some d=>
   rw [hd] at jD;unfold fT at jD;simp only at jD;split at jD<;>try contradiction
   rename_i pV;rw [Nat.blt_eq] at pV;split at jD<;>try contradiction
   rename_i qL;have qS:=Bj (wZ qL).2;have dO:=hi.enter (n:=n) (P:=P) (g:=[]) (v:=v) (eB:=(i,d,[],v)::al) (qX:=nf) (h':=h') (L':=L.setIfInBounds i true) hs ho (by rw [hd]) (by simp) (.inr ⟨rfl,he⟩) DK DL;refine IH rest _ nf ((i,d,[],v)::al) h' _ g' _ w' dO jD ?_ zm AL;have hE:dC (L.setIfInBounds i true) ((i,d,[],v)::al)=(i,d,[],v)::dC L al:=by unfold dC;have h1:(L.setIfInBounds i true).getD i false=true:=(by simp [aI]);rw [List.filter_cons,if_pos h1];congr 1;refine List.filter_congr fun x hx=>?_;exact getD_set_ne false (fun e=>jG (e ▸ (hi.gL x hx).1))
   rw [hE];show bN n X g' ((d,[],v)::bK (dC L al) r) h' (a.put (some d) u) w';refine hc.Lc cV aF pV (by simp) ?_ (fun _=>⟨by simp,cN⟩) (fun hh=>absurd (fun e he=>by cases he) hh);intro t gg vv hl e rS xw;rcases Ld hl with ⟨x,hx,ex⟩|hl
   ·obtain ⟨hx,ka⟩:=pT.1 hx;have jV:=hi.path x hx e (by rw [ex];exact rS) i o ho (xw ▸ hd);exact jG (hi.qW hs (hi.gL x hx).1 jV).1
   exact zb qS hl e rS xw
def Ea (cl:List Nat) (q:Nat):List Nat->Bool
 | []=>true
 | x::l=>match Nat.testBit (ly cl q) x with
   | true=>false
   | false=>Ea cl q l
def Ht (cl:List Nat) (q:Nat):List Nat->Bool
 | []=>false
 | x::l=>match Nat.testBit (ly cl q) x with
   | true=>true
   | false=>Ht cl q l
def Eb (cl ms:List Nat):List Nat->Bool
 | []=>true
 | q::l=>match Ht cl q ms with
   | true=>Eb cl ms l
   | false=>false
def Ec (cl ms:List Nat):List Nat->Bool
 | []=>true
 | m::l=>match Ea cl m ms with
   | true=>Ec cl ms l
   | false=>false
def Bv (cl:List Nat):List Nat->List Nat->Option (Nat × List Nat)
 | _,[]=>none
 | zJ,q::l=>match Ea cl q zJ with
   | true=>some (q,l)
   | false=>match Bv cl (q::zJ) l with
     | some (x,l')=>some (x,q::l')
     | none=>none
def xI (m:Nat):List Nat->List Nat
 | []=>[]
 | x::l=>match Nat.beq x m with
   | true=>l
   | false=>x::xI m l
def Bw (G:Nat->Prop):List Nat->Prop
 | []=>True
 | m::l=>G m/\Bw G l
theorem LQ {cl:List Nat} {q:Nat}:∀ {l:List Nat},Ea cl q l=true->∀ x∈l,Nat.testBit (ly cl q) x=false
 | [],_,x,hx=>by cases hx
 | y::l,h,x,hx=>by
   unfold Ea at h;split at h
   ·cases h
   rename_i hy;rcases List.mem_cons.1 hx with rfl|hx
   ·exact hy
   exact LQ h x hx
theorem St {cl:List Nat} {q:Nat}:∀ {l:List Nat},Ht cl q l=true->∃ x∈l,Cl cl q x
 | [],h=>by cases h
 | y::l,h=>by
   unfold Ht at h;split at h
   ·rename_i hy;exact ⟨y,by simp,hy⟩
   obtain ⟨x,h1,h2⟩:=St h;exact ⟨x,by simp [h1],h2⟩
theorem Su {cl ms:List Nat}:∀ {l:List Nat},Eb cl ms l=true->∀ q∈l,∃ x∈ms,Cl cl q x
 | [],_,q,hq=>by cases hq
 | y::l,h,q,hq=>by
   unfold Eb at h;split at h
   ·rename_i hy;rcases List.mem_cons.1 hq with rfl|hq
    ·exact St hy
    exact Su h q hq
   cases h
theorem Sv {cl ms:List Nat}:∀ {l:List Nat},Ec cl ms l=true->∀ m∈l,∀ x∈ms,Nat.testBit (ly cl m) x=false
 | [],_,m,hm=>by cases hm
 | y::l,h,m,hm=>by
   unfold Ec at h;split at h
   ·rename_i hy;rcases List.mem_cons.1 hm with rfl|hm
    ·exact LQ hy
    exact Sv h m hm
   cases h
theorem Sw {cl:List Nat} {q:Nat}:∀ {l zJ l2:List Nat},Bv cl zJ l=some (q,l2)->∃ b c,l=b++q::c/\l2=b++c/\(∀ x∈zJ,Nat.testBit (ly cl q) x=false)/\∀ x∈b,Nat.testBit (ly cl q) x=false
 | [],zJ,l2,h=>by cases h
 | y::l,zJ,l2,h=>by
   unfold Bv at h;split at h
   ·rename_i hy;cases h
    exact ⟨[],l,rfl,rfl,LQ hy,by simp⟩
   split at h
   ·rename_i x l' hx;cases h
    obtain ⟨b,c,rfl,rfl,h3,h4⟩:=Sw hx;refine ⟨y::b,c,rfl,rfl,fun z hz=>h3 z (by simp [hz]),fun z hz=>?_⟩;rcases List.mem_cons.1 hz with rfl|hz
    ·exact h3 _ (by simp)
    exact h4 z hz
   cases h
theorem Sx {m:Nat}:∀ {ms:List Nat},m∈ms->∃ a b,ms=a++m::b/\xI m ms=a++b
 | [],h=>by cases h
 | x::l,h=>by
   unfold xI;split
   ·rename_i hx;have:=Nat.eq_of_beq_eq_true hx;subst this;exact ⟨[],l,rfl,rfl⟩
   rename_i hx;rcases List.mem_cons.1 h with rfl|h
   ·rw [Nat.beq_refl] at hx;cases hx
   obtain ⟨a,b,e1,e2⟩:=Sx h;exact ⟨x::a,b,by rw [e1];rfl,by rw [e2];rfl⟩
theorem Sy {G:Nat->Prop}:∀ {l:List Nat},Bw G l->∀ m∈l,G m
 | [],_,m,hm=>by cases hm
 | y::l,h,m,hm=>by
   rcases List.mem_cons.1 hm with rfl|hm
   ·exact h.1
   exact Sy h.2 m hm
theorem Sz {G G':Nat->Prop} (hg:∀ m,G m->G' m):∀ {l:List Nat},Bw G l->Bw G' l
 | [],_=>trivial
 | y::l,h=>⟨hg _ h.1,Sz hg h.2⟩
theorem gK.front {i:Nat} {post:List Nat}:∀ {a kn:List Nat},gK all cl (kn++(a++i::post))->(∀ x∈a,Nat.testBit (ly cl i) x=false)->gK all cl (kn++(i::(a++post)))
 | [],kn,hs,_=>hs
 | x::a,kn,hs,h=>by have h1:gK all cl ((kn++[x])++(i::(a++post))):=gK.front (a:=a) (kn:=kn++[x]) (by simpa using hs) (fun y hy=>h y (by simp [hy]));have h2:gK all cl (kn++x::i::(a++post)):=(by simpa using h1);exact gK.swap h2 (h x (by simp))
def xJ (P:Program) (c:az) (n:Nat) (all:List Oper) (cl:List Nat) (K:aC->af->Prop):Nat->List Nat->List Nat->List Nat->aC->af->Prop
 | 0,_,_,_,_,_=>False
 | f+1,ms,rest,nf,r,h=>match ms with
   | []=>sz P c n all cl K rest nf r h
   | m0::fR=>match Bv cl (m0::fR) rest with
     | some (q,zK)=>(match all[q]? with
       | none=>False
       | some o=>match Ae c o with
         | true=>xJ P c n all cl K f (q::m0::fR) zK nf r h
         | false=>dN P all r h (fun g v=>match ye cl all q g with
           | true=>fT n o.dst g v r fun r'=>xJ P c n all cl K f (m0::fR) zK (match rv r g o.op with|true=>nf|false=>q::nf) r' h
           | false=>False) o)
     | none=>(Ec cl (m0::fR) (m0::fR)&&Eb cl (m0::fR) rest)=true/\Bw (fun m=>match all[m]? with
       | none=>False
       | some o=>(o.guard.isNone&&(makes o.op||(calm r o.op&&uV cl all m nf)))=true/\gN P c.own c.lc o.dst r h (fun v h'=>fT n o.dst [] v r fun r'=>xJ P c n all cl K f (xI m (m0::fR)) rest nf r' h') o.op) (m0::fR)
theorem q7 {c:az} {K:aC->af->Prop} {Q:Exit->Act->World->Prop}:∀ (fuel f:Nat) (ord ms rest kn nf:List Nat) (al:List (Nat × Nat × G × AV)) (h:af) (L:Array Bool) (g0:Gh) (a:Act) (w:World),gK all cl ord ->
  iD n P all cl ord r kn (ms++rest) nf al h L->xJ P c n all cl K f ms rest nf (bK al r) h->bN n X g0 (bK (dC L al) r) h a w->pU all.length L<=fuel ->
  (∀ r' h' g' a' w',K r' h'->bN n X g' r' h' a' w'->Step X g0 h w g' h' w'->Q .normal a' w')->wpAny P .any all.toArray Q fuel L a w:=by
 intro fuel;induction fuel with
 | zero=>
   intro f ord ms rest kn nf al h L g0 a w hs hi hr hc hu hf;have nr:=Ri (Nat.le_zero.1 hu);cases f with
   | zero=>exact hr.elim
   | succ f=>
   cases ms with
   | nil=>exact Li hs 0 rest kn nf al h L g0 a w hi hr hc hu hf
   | cons x ms=>
     have hx:x∈ord:=by rw [hi.split];simp
     obtain ⟨aI,_⟩:=hi.lt hs hx;have h1:=hi.qV x (nr x (by rw [<- hi.kO];exact aI));have:=hs.p3;rw [hi.split,List.nodup_append] at this;exact absurd rfl (this.2.2 x h1 x (by simp))
 | succ fuel IH=>
   intro f;induction f with
   | zero=>intro ord ms rest kn nf al h L g0 a w hs hi hr;exact hr.elim
   | succ f vW=>
     intro ord ms rest kn nf al h L g0 a w hs hi hr hc hu hf;cases ms with
     | nil=>exact Li hs (fuel+1) rest kn nf al h L g0 a w hi hr hc hu hf
     | cons m0 fR=>
     have oV:=hr;unfold xJ at hr;simp only at hr;split at hr
     ·-- a quiet one,brought to the front
      rename_i k zK q8;obtain ⟨b,c2,rfl,rfl,Ag,BX⟩:=Sw q8
      have lC:gK all cl (kn++(k::(((m0::fR)++b)++c2))):=gK.front (by have:=hs;rw [hi.split] at this;simpa using this) (fun x hx=>by
       rcases List.mem_append.1 hx with hx|hx
       ·exact Ag x hx
       exact BX x hx)
      have hi:iD n P all cl (kn++(k::(((m0::fR)++b)++c2))) r kn (k::(((m0::fR)++b)++c2)) nf al h L:=⟨rfl,hi.kO,hi.qV,hi.tz,hi.gL,hi.zo,hi.DB,hi.path,hi.fact⟩;have hs:=lC;have mE:k∈kn++(k::(((m0::fR)++b)++c2)):=(by simp);have jG:k ∉ kn:=by have:=hs.p3;rw [List.nodup_append] at this;exact fun hm=>this.2.2 k hm k (by simp) rfl
      obtain ⟨aI,o,ho⟩:=hi.lt hs mE
      have dW:L.getD k false=false:=by
       cases hb:L.getD k false with
       | false=>rfl
       | true=>exact absurd (hi.qV k hb) jG
      have sK:∀ e∈o.after.toList,Region.binds .any e=true->e.on∈kn:=by obtain ⟨o2,cy,hh⟩:=hs.p4 kn k _ hi.split;rw [ho] at cy;cases cy;exact hh
      have tA:∀ j,Cl cl k j->j∈kn:=by
       intro j hj
       have:=(tw hs (S:=fun i=>i∈kn\/i=k) (fun i hS=>by
        rcases hS with hS|rfl
        ·obtain ⟨o',bH,hh⟩:=hi.DC hs i hS;exact ⟨o',bH,fun e a b=>.inl (hh e a b)⟩
        exact ⟨o,ho,fun e a b=>.inl (sK e a b)⟩) k (.inr rfl) j hj)
       rcases this.1 with h|rfl
       ·exact h
       exact absurd this.2 (Nat.lt_irrefl _)
      have qY:∀ t∈jq all o,mD all cl al r k t (bp (bK al r) t):=by intro t ht;refine zp hi hs ho (fun x hx=>hx) (fun j hj=>⟨tA j hj,fun x hx _=>hx⟩) ?_ t ht;intro x hx jV;exact jG (hi.qW hs (hi.gL x hx).1 jV).1
      have e0:(((m0::fR)++b)++c2)=(m0::fR)++(b++c2):=(by simp);rw [e0] at hi hs;rw [ho] at hr;simp only at hr;split at hr
      ·exact vW _ (k::m0::fR) (b++c2) kn nf al h L g0 a w hs hi hr hc hu hf
      obtain ⟨g,v,gw,hE⟩:=KV hr;split at gw<;>try contradiction
      rename_i jm;have jm:=GX jm;obtain ⟨jH,pW⟩:∃ jH,jH=(match rv (bK al r) g o.op with|true=>nf|false=>k::nf):=⟨_,rfl⟩
      have xy:k ∉ jH->∀ h',dN P all (bK al r) h' (fun g' v'=>g'=g/\v'=v) o:=by
       intro bq h';rw [pW] at bq;split at bq
       ·rename_i DM;exact KW DM hE
       simp at bq
      have DN:∀ x∈nf,x∈jH:=by
       intro x hx;rw [pW];split
       ·exact hx
       exact List.mem_cons_of_mem _ hx
      have hold:∀ k'∈kn,L.getD k' false=false->∃ o g v Rk,all[k']?=some o/\dN P all Rk h (fun g' v'=>g'=g/\v'=v) o /\
          (∀ t∈jq all o,mD all cl al r k' t (bp Rk t)) /\
          (∀ d,o.dst=some d->(k',d,g,v)∈al/\d<n/\(∀ e∈g,e.1≠d)/\∀ t gg v,bp r t=some (gg,v)->∀ e∈gg,e.1≠d) /\
          (k' ∉ jH->∀ h',dN P all Rk h' (fun g' v'=>g'=g/\v'=v) o):=by
       intro k' bq fF;obtain ⟨o',g2,v2,Rk,q1,q2,q3,q4,q5⟩:=hi.fact k' bq fF;exact ⟨o',g2,v2,Rk,q1,q2,q3,q4,fun hh=>q5 fun hm=>hh (DN _ hm)⟩
      cases hd:o.dst with
      | none=>
        rw [hd] at gw
        have dO:=hi.enter (n:=n) (P:=P) (g:=g) (v:=v) (eB:=al) (qX:=jH) (h':=h) (L':=L) hs ho (by rw [hd]) jm (.inl rfl) hold
         (fun _=>⟨o,g,v,bK al r,ho,hE,qY,fun d cZ=>(by rw [hd] at cZ;cases cZ),xy⟩)
        exact vW _ _ _ _ _ al h L g0 a w hs dO (by rw [pW];exact gw) hc hu hf
      | some d=>
        rw [hd] at gw;unfold fT at gw;simp only at gw;split at gw<;>try contradiction
        rename_i pV;rw [Nat.blt_eq] at pV;split at gw<;>try contradiction
        rename_i qL;obtain ⟨jS,dL⟩:=wZ qL;have qS:=Bj dL
        have dO:=hi.enter (n:=n) (P:=P) (g:=g) (v:=v) (eB:=(k,d,g,v)::al) (qX:=jH) (h':=h) (L':=L) hs ho (by rw [hd]) jm (.inl rfl) hold
         (fun _=>⟨o,g,v,bK al r,ho,hE,fun t ht=>(qY t ht).more (fun x hx=>List.mem_cons_of_mem _ hx),
           fun d' cZ=>(by rw [hd] at cZ;cases cZ;exact ⟨List.mem_cons_self,pV,jS,fun t gg vv hl=>zb qS hl⟩),xy⟩)
        refine vW _ _ _ _ _ ((k,d,g,v)::al) h L g0 a w hs dO (by rw [pW];exact gw) ?_ hu hf;have hE:dC L ((k,d,g,v)::al)=dC L al:=by unfold dC;rw [List.filter_cons,if_neg (by simp only [dW];exact Bool.false_ne_true)]
        rw [hE];exact hc
     -- those that PA made
     obtain ⟨LR,hE⟩:=hr;simp only [Bool.and_eq_true] at LR;have ti:=Sv LR.1;have DH:=Su LR.2;have na:m0 ∉ kn:=by have:=hs.p3;rw [hi.split,List.nodup_append] at this;exact fun hm=>this.2.2 m0 hm m0 (by simp) rfl
     refine ⟨fun DG=>?_,fun i hm=>?_⟩
     ·have:=Lf hi hs DG m0 (by rw [hi.split];simp);exact absurd (hi.qV m0 this) na
     obtain ⟨m1,LU,zr,m2⟩:=mem_ready.1 hm;have qZ:all[i]?=some LU:=(by simpa using zr);have oc:i<all.length:=(List.getElem?_eq_some_iff.1 qZ).1;have jv:L.getD i false=false:=by rw [<- DD (by rw [hi.kO];exact oc)];exact m1
     have he:∀ e∈LU.after.toList,Region.binds .any e=true->L.getD e.on false=true:=fun e he hb=>m2 e (by simpa using he) hb
     have rV:∀ j,Cl cl i j->L.getD j false=true:=by
      intro j hj
      have:=(tw hs (S:=fun x=>L.getD x false=true\/x=i) (fun x hS=>by
       rcases hS with hS|rfl
       ·obtain ⟨o',bH,hh⟩:=hi.tz x hS;exact ⟨o',bH,fun e a b=>.inl (hh e a b)⟩
       exact ⟨LU,qZ,fun e a b=>.inl (he e a b)⟩) i (.inr rfl) j hj)
      rcases this.1 with h|rfl
      ·exact h
      exact absurd this.2 (Nat.lt_irrefl _)
     have cu:i∈kn\/i∈m0::fR\/i∈rest:=by have:=hs.p2 i oc;rw [hi.split] at this;simpa [or_assoc] using this
     rcases cu with po|LV|Lj
     ·refine Lh hi hs po jv (fun o2 cy=>by rw [qZ] at cy;cases cy;exact he) hc ?_;intro g' a' w' bQ aF
      exact IH (f+1) ord (m0::fR) rest kn nf al h _ g' a' w' hs (hi.list po qZ he) oV bQ (by have:=DE oc hi.kO.symm jv;omega)
       (fun r2 h2 g2 a2 w2 hK ck nc=>hf r2 h2 g2 a2 w2 hK ck (aF.trans hc.cw.own nc))
     ·have hA:=Sy hE i LV;rw [qZ] at hA;simp only at hA;rw [Bool.and_eq_true,Option.isNone_iff_eq_none] at hA;obtain ⟨⟨q9,r5⟩,hA⟩:=hA;obtain ⟨a1,b1,e1,e2⟩:=Sx LV;have lC:gK all cl (kn++(i::(a1++(b1++rest)))):=gK.front (by have:=hs;rw [hi.split,e1] at this;simpa using this) (fun x hx=>ti i LV x (by rw [e1];simp [hx]));have dO:iD n P all cl (kn++(i::(a1++(b1++rest)))) r kn (i::(a1++(b1++rest))) nf al h L:=⟨rfl,hi.kO,hi.qV,hi.tz,hi.gL,hi.zo,hi.DB,hi.path,hi.fact⟩
      refine p9 (Rg:=fun l nf r' h'=>l=xI i (m0::fR)++rest/\xJ P c n all cl K f (xI i (m0::fR)) rest nf r' h') lC dO qZ zr q9 r5 jv he
       (oa (fun v h'=>rW fun r' hh=>⟨by rw [e2];simp,hh⟩) hA) hc hu ?_ hf
      rintro cA kn nf al h L g0 a w aD ⟨rfl,vI⟩ ck js r6;exact IH f _ (xI i (m0::fR)) rest kn nf al h L g0 a w lC aD vI ck js r6
     obtain ⟨x,hx,jV⟩:=DH i Lj;have h1:=rV x jV;have h2:=hi.qV x h1;have:=hs.p3;rw [hi.split,List.nodup_append] at this;exact absurd rfl (this.2.2 x h2 x (List.mem_append_left _ hx))
def Bx (P:Program) (c:az) (n:Nat) (all:List Oper) (K:aC->af->Prop):Nat->List Nat->List Nat->List Nat->aC->af->Prop
 | 0,_,_,_,_,_=>False
 | f+1,ms,rest,nf,r,h=>match ms with
   | []=>vY P c n all K rest nf r h
   | m0::fR=>match Bv (je all []) (m0::fR) rest with
     | some (q,zK)=>(match all[q]? with
       | none=>False
       | some o=>match Ae c o with
         | true=>Bx P c n all K f (q::m0::fR) zK nf r h
         | false=>dN P all r h (zw (fun nf r h=>Bx P c n all K f (m0::fR) zK nf r h) all q n o nf r h) o)
     | none=>(Ec (je all []) (m0::fR) (m0::fR)&&Eb (je all []) (m0::fR) rest)=true/\Bw (fun m=>match all[m]? with
       | none=>False
       | some o=>(o.guard.isNone&&(makes o.op||(calm r o.op&&uV (je all []) all m nf)))=true/\gN P c.own c.lc o.dst r h (vX (Bx P c n all K f (xI m (m0::fR)) rest nf) n o.dst r) o.op) (m0::fR)
theorem Hu {c:az} {K:aC->af->Prop}:∀ {f:Nat} {ms rest nf:List Nat} {r:aC} {h:af},Bx P c n all K f ms rest nf r h->xJ P c n all (je all []) K f ms rest nf r h
 | 0,ms,rest,nf,r,h,hh=>hh.elim
 | f+1,ms,rest,nf,r,h,hh=>by
   unfold Bx at hh;unfold xJ;cases ms with
   | nil=>exact Bm (fun _ _ h=>h) hh
   | cons m0 fR=>
     simp only at hh ⊢;cases hp:Bv (je all []) (m0::fR) rest with
     | some x=>
       obtain ⟨q,zK⟩:=x;rw [hp] at hh;simp only at hh ⊢;cases ho:all[q]? with
       | none=>rw [ho] at hh;exact hh.elim
       | some o=>
         rw [ho] at hh;simp only at hh ⊢;cases hl:Ae c o with
         | true=>rw [hl] at hh;exact Hu hh
         | false=>
           rw [hl] at hh;simp only at hh ⊢;refine Lu (fun g v hv=>?_) hh;unfold zw at hv;cases hp:ye (je all []) all q g with
           | false=>rw [hp] at hv;exact hv.elim
           | true=>
             rw [hp] at hv;exact rW (fun _=>Hu) hv
     | none=>
       rw [hp] at hh;simp only at hh ⊢;refine ⟨hh.1,Sz (fun m hm=>?_) hh.2⟩;cases ho:all[m]? with
       | none=>rw [ho] at hm;exact hm.elim
       | some o=>
         rw [ho] at hm;exact ⟨hm.1,oa (fun v h'=>Hc fun _ _=>Hu) hm.2⟩
def Hv (P:Program) (c:az) (n:Nat) (all:List Oper) (K:aC->af->Prop) (ms post:List Nat):List Nat->List Nat->aC->af->Prop
 | [],nf,r,h=>Bx P c n all K 100 ms post nf r h
 | i::pre,nf,r,h=>match all[i]? with
   | none=>False
   | some o=>match Ae c o with
     | true=>False
     | false=>dN P all r h (zw (Hv P c n all K ms post pre) all i n o nf r h) o
theorem r7 {c:az} {K:aC->af->Prop} {Q:Exit->Act->World->Prop} {ms post:List Nat} {fuel:Nat} {g0:Gh} {a:Act} {w:World} {L:Array Bool} (hs:gK all (je all []) ord):∀ (pre kn nf:List Nat) (al:List (Nat × Nat × G × AV)) (h:af),
  iD n P all (je all []) ord r kn (pre++(ms++post)) nf al h L->Hv P c n all K ms post pre nf (bK al r) h->bN n X g0 (bK (dC L al) r) h a w->pU all.length L<=fuel ->
  (∀ r' h' g' a' w',K r' h'->bN n X g' r' h' a' w'->Step X g0 h w g' h' w'->Q .normal a' w')->wpAny P .any all.toArray Q fuel L a w:=by
 intro pre;induction pre with
 | nil=>intro kn nf al h hi hr hc hu hf;exact q7 fuel 100 ord ms post kn nf al h L g0 a w hs hi (Hu hr) hc hu hf
 | cons k pre vW=>
   intro kn nf al h hi hr hc hu hf;have mE:k∈ord:=by rw [hi.split];simp
   have jG:k ∉ kn:=by have:=hs.p3;rw [hi.split,List.nodup_append] at this;exact fun hm=>this.2.2 k hm k (by simp) rfl
   obtain ⟨aI,o,ho⟩:=hi.lt hs mE
   have dW:L.getD k false=false:=by
    cases hb:L.getD k false with
    | false=>rfl
    | true=>exact absurd (hi.qV k hb) jG
   have sK:∀ e∈o.after.toList,Region.binds .any e=true->e.on∈kn:=by obtain ⟨o2,cy,hh⟩:=hs.p4 kn k _ hi.split;rw [ho] at cy;cases cy;exact hh
   have tA:∀ j,Cl (je all []) k j->j∈kn:=by
    intro j hj
    have:=(tw hs (S:=fun i=>i∈kn\/i=k) (fun i hS=>by
     rcases hS with hS|rfl
     ·obtain ⟨o',bH,hh⟩:=hi.DC hs i hS;exact ⟨o',bH,fun e a b=>.inl (hh e a b)⟩
     exact ⟨o,ho,fun e a b=>.inl (sK e a b)⟩) k (.inr rfl) j hj)
    rcases this.1 with h|rfl
    ·exact h
    exact absurd this.2 (Nat.lt_irrefl _)
   have qY:∀ t∈jq all o,mD all (je all []) al r k t (bp (bK al r) t):=by intro t ht;refine zp hi hs ho (fun x hx=>hx) (fun j hj=>⟨tA j hj,fun x hx _=>hx⟩) ?_ t ht;intro x hx jV;exact jG (hi.qW hs (hi.gL x hx).1 jV).1
   unfold Hv at hr;rw [ho] at hr;simp only at hr;split at hr<;>try contradiction
   obtain ⟨g,v,gw,hE⟩:=KV hr;unfold zw at gw;split at gw<;>try contradiction
   rename_i jm;have jm:=GX jm;obtain ⟨jH,pW⟩:∃ jH,jH=(match rv (bK al r) g o.op with|true=>nf|false=>k::nf):=⟨_,rfl⟩
   have xy:k ∉ jH->∀ h',dN P all (bK al r) h' (fun g' v'=>g'=g/\v'=v) o:=by
    intro bq h';rw [pW] at bq;split at bq
    ·rename_i DM;exact KW DM hE
    simp at bq
   have DN:∀ x∈nf,x∈jH:=by
    intro x hx;rw [pW];split
    ·exact hx
    exact List.mem_cons_of_mem _ hx
   have hold:∀ k'∈kn,L.getD k' false=false->∃ o g v Rk,all[k']?=some o/\dN P all Rk h (fun g' v'=>g'=g/\v'=v) o /\
       (∀ t∈jq all o,mD all (je all []) al r k' t (bp Rk t)) /\
       (∀ d,o.dst=some d->(k',d,g,v)∈al/\d<n/\(∀ e∈g,e.1≠d)/\∀ t gg v,bp r t=some (gg,v)->∀ e∈gg,e.1≠d) /\
       (k' ∉ jH->∀ h',dN P all Rk h' (fun g' v'=>g'=g/\v'=v) o):=by
    intro k' bq fF;obtain ⟨o',g2,v2,Rk,q1,q2,q3,q4,q5⟩:=hi.fact k' bq fF;exact ⟨o',g2,v2,Rk,q1,q2,q3,q4,fun hh=>q5 fun hm=>hh (DN _ hm)⟩
   cases hd:o.dst with
   | none=>
     rw [hd] at gw
     have dO:=hi.enter (n:=n) (P:=P) (g:=g) (v:=v) (eB:=al) (qX:=jH) (h':=h) (L':=L) hs ho (by rw [hd]) jm (.inl rfl) hold
      (fun _=>⟨o,g,v,bK al r,ho,hE,qY,fun d cZ=>(by rw [hd] at cZ;cases cZ),xy⟩)
     exact vW _ _ al h dO (by rw [pW];exact gw) hc hu hf
   | some d=>
     rw [hd] at gw;unfold fT at gw;simp only at gw;split at gw<;>try contradiction
     rename_i pV;rw [Nat.blt_eq] at pV;split at gw<;>try contradiction
     rename_i qL;obtain ⟨jS,dL⟩:=wZ qL;have qS:=Bj dL
     have dO:=hi.enter (n:=n) (P:=P) (g:=g) (v:=v) (eB:=(k,d,g,v)::al) (qX:=jH) (h':=h) (L':=L) hs ho (by rw [hd]) jm (.inl rfl) hold
      (fun _=>⟨o,g,v,bK al r,ho,hE,fun t ht=>(qY t ht).more (fun x hx=>List.mem_cons_of_mem _ hx),
        fun d' cZ=>(by rw [hd] at cZ;cases cZ;exact ⟨List.mem_cons_self,pV,jS,fun t gg vv hl=>zb qS hl⟩),xy⟩)
     refine vW _ _ ((k,d,g,v)::al) h dO (by rw [pW];exact gw) ?_ hu hf;have hE:dC L ((k,d,g,v)::al)=dC L al:=by unfold dC;rw [List.filter_cons,if_neg (by simp only [dW];exact Bool.false_ne_true)]
     rw [hE];exact hc
theorem Ym {c:az} {F:Func} {E:En} {p:List Bool} {S:List Fr} {k id:Nat} {ops:Array Oper} {r:aC} {h:af} (gf:cat F p=.region id ops true) (hm:P.follows .mixedOrders=true) (pre ms post:List Nat) (fz:List Nat)
  (hd:aP (aN F p) (pre++(ms++post))=true)
  (hr:Hv P c E.n (aN F p) (fun r' h'=>tW (fun sA qx=>pk sA (fun r3=>Bq (run P c F E k (.ex .normal) S) r3 qx) c.mM) fz r' h') ms post pre [] r h) :
  Holds P E.n E.X (cat F p) (fun e r h=>run P c F E k (.ex e) S r h) r h:=by
 have ho:=Ry gf;rw [ho] at hd hr;rw [gf];refine ⟨fun g a w hc=>?_⟩;refine wp_region_any hm ?_;obtain ⟨dc,ds⟩:=hc.cw.drew;have hs:=Rc hd;have bQ:bN E.n E.X g r h a w.drew:=hc.step dc ds
 have hi:iD E.n P ops.toList (je ops.toList []) (pre++(ms++post)) r [] (pre++(ms++post)) [] [] h (Array.replicate ops.size false):=by
  have cN:∀ i,(Array.replicate ops.size false).getD i false=false:=by intro i;by_cases hi:i<ops.size<;>simp [hi]
  refine ⟨rfl,by simp,?_,?_,by simp,by simp,by simp,by simp,by simp⟩
  ·intro i hL;rw [cN i] at hL;cases hL
  intro i hL;rw [cN i] at hL;cases hL
 have:=r7 (n:=E.n) (X:=E.X) (r:=r) (c:=c) (fuel:=ops.size) (g0:=g) (a:=a) (w:=w.drew) (L:=Array.replicate ops.size false) (Q:=fun e a' w'=>∃ ex g' r' h',e=Ex.toExit ex/\run P c F E k (.ex ex) S r' h'/\bN E.n E.X g' r' h' a' w'/\Step E.X g h w g' h' w') hs pre [] [] [] h
  hi hr bQ (by unfold pU;exact Nat.le_trans (List.length_filter_le _ _) (by simp)) (by
   intro r' h' g' a' w' hK ck aF;obtain ⟨r2,h2,hK,od,DO⟩:=Ll hK ck;obtain ⟨r3,hK,hl⟩:=AP (k:=fun r3=>Bq (run P c F E k (.ex .normal) S) r3 h2) hK;obtain ⟨r4,h4,ht,hK⟩:=hK;obtain ⟨g4,r8,r9⟩:=ht _ _ _ _ _ (od.less hl);exact ⟨.normal,g4,r4,h4,rfl,hK,r8,ds.trans hc.cw.own (aF.trans bQ.cw.own (DO.trans ck.cw.own r9))⟩)
 exact this
theorem Yn {A:Prop} {P:Nat->Nat->Nat->Prop} (h1:(∀ a b c,P a b c)->A) (h2:∀ a b c,P a b c):A:=h1 h2
end Go.Abs
/-
 Z7: SA Z8 Z9 AT a0a a0b,IN a0c a0d (s6/lay-plain.s7 out of 'a0e.a0f,o8 s6/lay-a0g.s7 wrote): SA s8 a0h a0i SA s8 a0j: 'a0k,'a0l,'a0m,'a0n,'a0o AND a0p a0q: no command of the a0r: FOR A a0s-IN. a0t a0u: the table of numbers ('.._ren') and one theorem,a field a fact of the a0v own or the a0w a0x;each s9: ONE a0y.
-/
namespace Go.Proofs
open Go.Shelf
def Tryz.u0:Go.Shelf.Ren:=⟨fun|6=>219|15=>135|14=>253|28=>208|29=>209|20=>275|21=>276|22=>277|23=>278|24=>279|25=>280|26=>281|27=>282|46=>290|47=>246|48=>247|49=>291|50=>292|57=>296|n=>n,fun|22=>48|24=>128|25=>331|3=>3|39=>230|0=>0|53=>306|55=>308|4=>4|46=>300|45=>299|50=>131|5=>5|9=>9|66=>353|70=>357|76=>377|77=>147|n=>n,fun|n=>n⟩
theorem Tryz.u6:Go.Proofs.SlLaysF0.n6 Tryz.prog Tryz.u0:={
 mixed:=by kernel_rfl
 f6:=⟨Tryz.f219.name,by decide,Tryz.func219.trans (congrArg some (by kernel_rfl))⟩
 f14:=⟨Tryz.f253.name,by decide,Tryz.func253.trans (congrArg some (by kernel_rfl))⟩
 f15:=Tryz.func135.trans (congrArg some (by kernel_rfl))
 f20:=⟨Tryz.f275.name,by decide,Tryz.func275.trans (congrArg some (by kernel_rfl))⟩
 f21:=⟨Tryz.f276.name,by decide,Tryz.func276.trans (congrArg some (by kernel_rfl))⟩
 f22:=⟨Tryz.f277.name,by decide,Tryz.func277.trans (congrArg some (by kernel_rfl))⟩
 f23:=⟨Tryz.f278.name,by decide,Tryz.func278.trans (congrArg some (by kernel_rfl))⟩
 f24:=⟨Tryz.f279.name,by decide,Tryz.func279.trans (congrArg some (by kernel_rfl))⟩
 f25:=⟨Tryz.f280.name,by decide,Tryz.func280.trans (congrArg some (by kernel_rfl))⟩
 f26:=⟨Tryz.f281.name,by decide,Tryz.func281.trans (congrArg some (by kernel_rfl))⟩
 f27:=⟨Tryz.f282.name,by decide,Tryz.func282.trans (congrArg some (by kernel_rfl))⟩
 f28:=Tryz.func208.trans (congrArg some (by kernel_rfl))
 f29:=Tryz.func209.trans (congrArg some (by kernel_rfl))
 f46:=⟨Tryz.f290.name,by decide,Tryz.func290.trans (congrArg some (by kernel_rfl))⟩
 f47:=Tryz.func246.trans (congrArg some (by kernel_rfl))
 f48:=Tryz.func247.trans (congrArg some (by kernel_rfl))
 f49:=⟨Tryz.f291.name,by decide,Tryz.func291.trans (congrArg some (by kernel_rfl))⟩
 f50:=⟨Tryz.f292.name,by decide,Tryz.func292.trans (congrArg some (by kernel_rfl))⟩
 f57:=⟨Tryz.f296.name,by decide,Tryz.func296.trans (congrArg some (by kernel_rfl))⟩
 t0:=Tryz.underlying0
 a0:=Tryz.isAgg0
 z0:=Tryz.sizeOf0
 v0:=Tryz.zeroValue0
 t3:=Tryz.underlying3
 a3:=Tryz.isAgg3
 z3:=Tryz.sizeOf3
 v3:=Tryz.zeroValue3
 t4:=Tryz.underlying4
 a4:=Tryz.isAgg4
 z4:=Tryz.sizeOf4
 v4:=Tryz.zeroValue4
 t5:=Tryz.underlying5
 a5:=Tryz.isAgg5
 z5:=Tryz.sizeOf5
 v5:=Tryz.zeroValue5
 t9:=Tryz.underlying9
 a9:=Tryz.isAgg9
 z9:=Tryz.sizeOf9
 v9:=Tryz.zeroValue9
 t22:=Tryz.underlying48
 a22:=Tryz.isAgg48
 z22:=Tryz.sizeOf48
 v22:=Tryz.zeroValue48
 t25:=Tryz.underlying331
 a25:=Tryz.isAgg331
 z25:=Tryz.sizeOf331
 v25:=Tryz.zeroValue331
 t39:=Tryz.underlying230
 a39:=Tryz.isAgg230
 z39:=Tryz.sizeOf230
 v39:=Tryz.zeroValue230
 t45:=Tryz.underlying299
 a45:=Tryz.isAgg299
 z45:=Tryz.sizeOf299
 v45:=Tryz.zeroValue299
 t46:=Tryz.underlying300
 a46:=Tryz.isAgg300
 z46:=Tryz.sizeOf300
 v46:=Tryz.zeroValue300
 t50:=Tryz.underlying131
 a50:=Tryz.isAgg131
 z50:=Tryz.sizeOf131
 v50:=Tryz.zeroValue131
 t53:=Tryz.underlying306
 a53:=Tryz.isAgg306
 z53:=Tryz.sizeOf306
 v53:=Tryz.zeroValue306
 t55:=Tryz.underlying308
 a55:=Tryz.isAgg308
 z55:=Tryz.sizeOf308
 v55:=Tryz.zeroValue308
 t66:=Tryz.underlying353
 a66:=Tryz.isAgg353
 z66:=Tryz.sizeOf353
 v66:=Tryz.zeroValue353
 t70:=Tryz.underlying357
 a70:=Tryz.isAgg357
 z70:=Tryz.sizeOf357
 v70:=Tryz.zeroValue357
 t76:=Tryz.underlying377
 a76:=Tryz.isAgg377
 z76:=Tryz.sizeOf377
 v76:=Tryz.zeroValue377
 t77:=Tryz.underlying147
 a77:=Tryz.isAgg147
 z77:=Tryz.sizeOf147
 v77:=Tryz.zeroValue147 }
def Tryz.u7:Go.Shelf.Ren:=⟨fun|6=>197|15=>135|14=>243|28=>208|29=>209|20=>264|21=>265|22=>266|23=>267|24=>268|25=>269|26=>270|27=>271|46=>286|47=>246|48=>247|49=>287|50=>288|57=>294|n=>n,fun|22=>137|24=>141|25=>297|3=>3|39=>230|0=>0|53=>306|55=>308|4=>4|46=>300|45=>299|50=>131|5=>5|9=>9|66=>353|70=>357|76=>377|77=>147|n=>n,fun|n=>n⟩
theorem Tryz.u9:Go.Proofs.SlLaysF0.n6 Tryz.prog Tryz.u7:={
 mixed:=by kernel_rfl
 f6:=⟨Tryz.f197.name,by decide,Tryz.func197.trans (congrArg some (by kernel_rfl))⟩
 f14:=⟨Tryz.f243.name,by decide,Tryz.func243.trans (congrArg some (by kernel_rfl))⟩
 f15:=Tryz.func135.trans (congrArg some (by kernel_rfl))
 f20:=⟨Tryz.f264.name,by decide,Tryz.func264.trans (congrArg some (by kernel_rfl))⟩
 f21:=⟨Tryz.f265.name,by decide,Tryz.func265.trans (congrArg some (by kernel_rfl))⟩
 f22:=⟨Tryz.f266.name,by decide,Tryz.func266.trans (congrArg some (by kernel_rfl))⟩
 f23:=⟨Tryz.f267.name,by decide,Tryz.func267.trans (congrArg some (by kernel_rfl))⟩
 f24:=⟨Tryz.f268.name,by decide,Tryz.func268.trans (congrArg some (by kernel_rfl))⟩
 f25:=⟨Tryz.f269.name,by decide,Tryz.func269.trans (congrArg some (by kernel_rfl))⟩
 f26:=⟨Tryz.f270.name,by decide,Tryz.func270.trans (congrArg some (by kernel_rfl))⟩
 f27:=⟨Tryz.f271.name,by decide,Tryz.func271.trans (congrArg some (by kernel_rfl))⟩
 f28:=Tryz.func208.trans (congrArg some (by kernel_rfl))
 f29:=Tryz.func209.trans (congrArg some (by kernel_rfl))
 f46:=⟨Tryz.f286.name,by decide,Tryz.func286.trans (congrArg some (by kernel_rfl))⟩
 f47:=Tryz.func246.trans (congrArg some (by kernel_rfl))
 f48:=Tryz.func247.trans (congrArg some (by kernel_rfl))
 f49:=⟨Tryz.f287.name,by decide,Tryz.func287.trans (congrArg some (by kernel_rfl))⟩
 f50:=⟨Tryz.f288.name,by decide,Tryz.func288.trans (congrArg some (by kernel_rfl))⟩
 f57:=⟨Tryz.f294.name,by decide,Tryz.func294.trans (congrArg some (by kernel_rfl))⟩
 t0:=Tryz.underlying0
 a0:=Tryz.isAgg0
 z0:=Tryz.sizeOf0
 v0:=Tryz.zeroValue0
 t3:=Tryz.underlying3
 a3:=Tryz.isAgg3
 z3:=Tryz.sizeOf3
 v3:=Tryz.zeroValue3
 t4:=Tryz.underlying4
 a4:=Tryz.isAgg4
 z4:=Tryz.sizeOf4
 v4:=Tryz.zeroValue4
 t5:=Tryz.underlying5
 a5:=Tryz.isAgg5
 z5:=Tryz.sizeOf5
 v5:=Tryz.zeroValue5
 t9:=Tryz.underlying9
 a9:=Tryz.isAgg9
 z9:=Tryz.sizeOf9
 v9:=Tryz.zeroValue9
 t22:=Tryz.underlying137
 a22:=Tryz.isAgg137
 z22:=Tryz.sizeOf137
 v22:=Tryz.zeroValue137
 t25:=Tryz.underlying297
 a25:=Tryz.isAgg297
 z25:=Tryz.sizeOf297
 v25:=Tryz.zeroValue297
 t39:=Tryz.underlying230
 a39:=Tryz.isAgg230
 z39:=Tryz.sizeOf230
 v39:=Tryz.zeroValue230
 t45:=Tryz.underlying299
 a45:=Tryz.isAgg299
 z45:=Tryz.sizeOf299
 v45:=Tryz.zeroValue299
 t46:=Tryz.underlying300
 a46:=Tryz.isAgg300
 z46:=Tryz.sizeOf300
 v46:=Tryz.zeroValue300
 t50:=Tryz.underlying131
 a50:=Tryz.isAgg131
 z50:=Tryz.sizeOf131
 v50:=Tryz.zeroValue131
 t53:=Tryz.underlying306
 a53:=Tryz.isAgg306
 z53:=Tryz.sizeOf306
 v53:=Tryz.zeroValue306
 t55:=Tryz.underlying308
 a55:=Tryz.isAgg308
 z55:=Tryz.sizeOf308
 v55:=Tryz.zeroValue308
 t66:=Tryz.underlying353
 a66:=Tryz.isAgg353
 z66:=Tryz.sizeOf353
 v66:=Tryz.zeroValue353
 t70:=Tryz.underlying357
 a70:=Tryz.isAgg357
 z70:=Tryz.sizeOf357
 v70:=Tryz.zeroValue357
 t76:=Tryz.underlying377
 a76:=Tryz.isAgg377
 z76:=Tryz.sizeOf377
 v76:=Tryz.zeroValue377
 t77:=Tryz.underlying147
 a77:=Tryz.isAgg147
 z77:=Tryz.sizeOf147
 v77:=Tryz.zeroValue147 }
end Go.Proofs
/-
 The abstract fS,part Z2: the v7 sort by a function that a0z,at rows of elements of k cells.
-/
namespace Go.Abs
open Go Go.Sort Go.Proofs
variable {P:Program} {X:Nat->Prop} {g0:Gh} {h:af} {w:World}
theorem ax.DS {c:Cx}:∀ {xs:List AV} {us:List Value},xs.length=us.length->(∀ (i:Nat) x u,xs[i]?=some x->us[i]?=some u->aa c x u)->ax c xs us
 | [],[],_,_=>by simp [ax]
 | x::xs,u::us,hl,h=>by simp only [ax];exact ⟨u,us,rfl,h 0 x u rfl rfl,ax.DS (by simpa using hl) fun i x u h1 h2=>h (i+1) x u (by simpa using h1) (by simpa using h2)⟩
 | [],_::_,hl,_=>by simp at hl
 | _::_,[],hl,_=>by simp at hl
theorem Hw {β:Type} {k:Nat}:∀ {L:List (List β)},(∀ x∈L,x.length=k)->L.flatten.length=L.length*k
 | [],_=>by simp
 | x::L,h=>by rw [List.flatten_cons,List.length_append,Hw (fun y hy=>h y (by simp [hy])),h x (by simp),List.length_cons,Nat.add_mul];omega
theorem Hx {β:Type} {k:Nat} (hk:0<k):∀ {L:List (List β)} {i j:Nat} {x:List β},(∀ x∈L,x.length=k)->L[i]?=some x->j<k->L.flatten[i*k+j]?=x[j]?
 | [],i,j,x,_,hx,_=>by simp at hx
 | y::L,0,j,x,h,hx,hj=>by simp at hx;subst hx;have:=h y (by simp);rw [List.flatten_cons,Nat.zero_mul,Nat.zero_add,List.getElem?_append_left (by omega)]
 | y::L,i+1,j,x,h,hx,hj=>by
   have hy:=h y (by simp);have e:(i+1)*k+j=y.length+(i*k+j):=by rw [hy,Nat.add_mul];omega
   rw [List.flatten_cons,e,List.getElem?_append_right (by omega),Nat.add_sub_cancel_left];exact Hx hk (fun z hz=>h z (by simp [hz])) (by simpa using hx) hj
theorem Hy {t n k:Nat} (h:t<n*k):t / k<n/\t % k<k/\t=t / k*k+t % k:=by
 have k0:0<k:=by rcases Nat.eq_zero_or_pos k with h0|h0;subst h0;simp at h;exact h0
 refine ⟨(Nat.div_lt_iff_lt_mul k0).2 h,Nat.mod_lt _ k0,?_⟩;have:=Nat.div_add_mod t k;rw [Nat.mul_comm] at this;omega
theorem v8 {l1 l2:af} {b:Nat} {cs l:List AV} {us:List Value} {w':World} {p:Addr} {cc eE:Array Value} {t:TypeId} (hc:CW X g0 (l1++(b,.vec cs)::l2) w)
  (h1:g0.pl b=some p) (h4:w.heap[p.block]?=some (.cells cc t (0,0))) (hlen:l.length=cs.length)
  (e7:w'.os=w.os) (e8:w'.tape=w.tape/\w.drawn<=w'.drawn) (e9:w'.output=w.output) (e6:w.heap.size<=w'.heap.size) (e5:∀ aS,aS<w.heap.size->aS≠p.block->w'.heap[aS]?=w.heap[aS]?)
  (e1:w'.heap[p.block]?=some (.cells eE t (0,0))) (e2:eE.size=cc.size) (e4:∀ (j:Nat) u,us[j]?=some u->eE[p.off+j]?=some u)
  (bd:ax ⟨g0,live X (l1++(b,.vec cs)::l2),w⟩ l us) (ho:∀ u∈us,u.oneCell'=true) :
  CW X g0 (l1++(b,.vec l)::l2) w'/\Step X g0 (l1++(b,.vec cs)::l2) w g0 (l1++(b,.vec l)::l2) w':=by
 have jC:=hc.obj b (.vec cs) (by simp);obtain ⟨p',JW,t0,a1,h2,h3,a4,h5,h6⟩:=jC;simp only at a1 h3 a4;rw [h1] at a1;cases a1
 rw [h4] at a4;cases a4
 have gT:=bd.length;have iL:b∈keys (l1++(b,.vec cs)::l2):=by rw [jn];exact .inl rfl
 have aF:Step X g0 (l1++(b,.vec cs)::l2) w g0 (l1++(b,.vec l)::l2) w':=by
  refine ⟨e7,e8,e9,e6,fun _ _ e=>e,fun _ _ _ e _=>e,fun _ _ _ e _=>e,fun _ _ e=>e,?_,?_,?_⟩
  ·intro aS hb hn;have aJ:aS≠p.block:=fun e=>hn b 0 (e ▸ h3) iL;refine ⟨e5 aS hb aJ,fun k s hk hm=>hn k s hk ?_⟩;rw [jn] at hm ⊢;exact hm
  ·intro aS k s hk hm dd tt ff eQ;by_cases e:aS=p.block
   ·subst e;rw [h3] at hk;cases hk
    rw [h4] at eQ;cases eQ
    exact ⟨eE,e1,e2,fun o ho=>by omega⟩
   exact ⟨dd,(e5 aS (hc.own _ _ _ hk) e).trans eQ,rfl,fun _ _=>rfl⟩
  intro aS k s hk _ k' s' bq _;rw [hk] at bq;cases bq;exact Nat.le_refl _
 refine ⟨?_,aF⟩;refine hc.replace aF (fun aS k s hk=>by have:=hc.own _ _ _ hk;omega) (.inl rfl) (fun k hk=>.inr hk) (fun aS s k hk=>.inr ⟨aS,s,hk⟩) ?_ ?_
 ·intro aS k s hk hm
  have aJ:aS≠p.block:=by
   intro e;rw [e,h3] at hk;cases hk
   exact hc.sY hm
  exact ⟨e5 aS (hc.own _ _ _ hk) aJ,rfl⟩
 refine ⟨p,eE,t,h1,h2,h3,e1,by omega,?_⟩;intro i x hx;obtain ⟨u,hu,hr⟩:=bd.get _ _ hx;exact ⟨u,e4 i u hu,ho u (List.mem_of_getElem? hu),aa.mono (Step.le aF) _ _ hr⟩
def By (P:Program) (f g k:Nat):Prop:=∀ (α:Type) (_:Inhabited α) (enc:α->List Value) (cf:α->α->Int) (aS off cap:Nat) (d:Array α) (w:World),
 (∀ x,(enc x).length=k)->(∀ x,∀ v∈enc x,v.oneCell'=true)->SWO (ltOf cf)->CmpLays P g #[] enc k cf aS off d.size w->HoldsK enc k w aS off d->aS<w.heap.size->d.size<4611686018427387904 ->
 Calls P f #[.slice (some ⟨aS,off,none⟩) d.size cap,.func (.func g) #[] #[]] w fun e w'=>e=.returned (.tuple #[])/\∃ d' n os,PermIn 0 d.size d d'/\SortedIn (ltOf cf) 0 d.size d'/\w'=sortWorldK enc k w aS off n d' os
theorem w6 {w w':World} (h1:w'.os=w.os) (h2:w'.tape=w.tape/\w.drawn<=w'.drawn) (h3:w'.output=w.output) (h4:w.heap.size<=w'.heap.size) (h5:∀ b,b<w.heap.size->w'.heap[b]?=w.heap[b]?) :
  ∃ q w7,w'=grow (w.drewN q) w7:=by
 refine ⟨w'.drawn - w.drawn,w'.heap.extract w.heap.size w'.heap.size,?_⟩;obtain ⟨hp,tp,dr,os,out⟩:=w';simp only at h1 h2 h3 h4 h5;obtain ⟨h2,h6⟩:=h2;subst h1 h2 h3;have e1:w.drawn+(dr - w.drawn)=dr:=by omega
 have e2:hp=w.heap++hp.extract w.heap.size hp.size:=by
  refine Array.ext_getElem? fun i=>?_;by_cases hi:i<w.heap.size
  ·rw [Array.getElem?_append_left hi];exact h5 i hi
  rw [Array.getElem?_append_right (by omega),Array.getElem?_extract];by_cases hj:i<hp.size
  ·rw [if_pos (by omega)];congr 1;omega
  rw [if_neg (by omega),Array.getElem?_eq_none (by omega)]
 unfold grow World.drewN;simp only;rw [<- e2,e1]
section
variable {f g k:Nat}
theorem w8 (iO:0<k) (hf:tT P f) (w9:tT P g) (hs:By P f g k) (cmp:List AV->List AV->Int) (xs:List (List AV)) (Ed:∀ x∈xs,x.length=k) (aJ:xs≠[]) (ka:xs.length<=4294967296)
  (zL:∀ x∈xs,∀ y∈xs,ae P g [.agg x,.agg y] [] (.int .i64 (cmp x y)))
  (SB:∀ x∈xs,¬ cmp x x<0) (nR:∀ x∈xs,∀ y∈xs,∀ z∈xs,cmp x y<0->cmp y z<0->cmp x z<0) (x9:∀ x∈xs,∀ y∈xs,∀ z∈xs,¬ cmp x y<0->¬ cmp y z<0->¬ cmp x z<0)
  (b:Nat):aB P f [.aQ b 0 xs.length k,.fn g []] [(b,.vec xs.flatten)] (fun v h'=>v=.aH []/\∃ ys:List (List AV),h'=[(b,.vec ys.flatten)]/\ys.Perm xs/\ys.Pairwise fun x y=>¬ cmp y x<0):=by
 refine ⟨fun X g0 w us hc hr=>.inl ⟨hf,?_⟩⟩;simp only [ax] at hr;obtain ⟨u,r,bd,hx,u2,r2,e2,fk,hr⟩:=hr;subst e2 hr;obtain ⟨p,cap,hp,jf,rfl,x2,x3,x4,x5,_⟩:=hx.BO (List.length_pos_iff.2 aJ);simp only [aa] at fk;obtain ⟨y0,rfl,fk⟩:=fk;try simp only [ax] at fk
 have y4:y0=#[]:=by rw [<- Array.toList_inj];simpa using fk
 subst y4;try simp only at hp x5
 obtain ⟨q,cc,t,h1,h2,h3,h4,h5,h6⟩:=hc.obj b _ (List.mem_singleton.2 rfl);simp only at h1 h3 h4;rw [hp] at h1;cases h1
 have dP:=Hw Ed;rw [dP] at h5;have hn:0<xs.length:=List.length_pos_iff.2 aJ;obtain ⟨n,jz⟩:∃ n,xs.length=n:=⟨_,rfl⟩;rw [jz] at dP h5 hn ka x2 x3 bd;have aI:p.block<w.heap.size:=(Array.getElem?_eq_some_iff.1 h4).1
 let E:Fin n->List Value:=fun i=>(List.range k).map fun j=>cc[p.off+(i.val*k+j)]!
 have Bz:∀ i,(E i).length=k:=fun i=>by simp [E]
 have SC:∀ (i:Fin n) (j:Nat),j<k->(E i)[j]?=some (cc[p.off+(i.val*k+j)]!):=fun i j hj=>by simp [E,hj]
 have y5:∀ (i:Fin n),xs[i.val]?=some (xs[i.val]'(by have:=i.2;omega)):=fun i=>List.getElem?_eq_getElem (by have:=i.2;omega)
 let V:Fin n->List AV:=fun i=>xs[i.val]'(by have:=i.2;omega)
 have sc:∀ i,V i∈xs:=fun i=>List.getElem_mem _;have a0A:∀ (i:Fin n) (j:Nat),j<k->i.val*k+j<n*k:=fun i j hj=>by have:(i.val+1)*k<=n*k:=Nat.mul_le_mul_right k i.2;rw [Nat.add_mul,Nat.one_mul] at this;omega
 have nJ:∀ (i:Fin n) (j:Nat),j<k->∃ x,(V i)[j]?=some x/\cc[p.off+(i.val*k+j)]?=some (cc[p.off+(i.val*k+j)]!)/\(cc[p.off+(i.val*k+j)]!).oneCell'=true/\aa ⟨g0,live X [(b,.vec xs.flatten)],w⟩ x (cc[p.off+(i.val*k+j)]!):=fun i j hj=>by
  have hl:j<(V i).length:=by rw [Ed _ (sc i)];exact hj
  have hg:=Hx iO Ed (y5 i) hj;obtain ⟨u,a1,a2,a3⟩:=h6 (i.val*k+j) (V i)[j] (by rw [hg];exact List.getElem?_eq_getElem hl);have LW:cc[p.off+(i.val*k+j)]! = u:=by have wX:=(Array.getElem?_eq_some_iff.1 a1).1;rw [getElem!_pos cc _ wX];exact (Array.getElem?_eq_some_iff.1 a1).2
  refine ⟨(V i)[j],List.getElem?_eq_getElem hl,?_,?_,?_⟩
  ·rw [LW];exact a1
  ·rw [LW];exact a2
  rw [LW];exact a3
 have Hz:∀ i,∀ v∈E i,v.oneCell'=true:=fun i v hv=>by obtain ⟨j,hj,rfl⟩:=List.mem_map.1 hv;obtain ⟨_,_,_,a3,_⟩:=nJ i j (List.mem_range.1 hj);exact a3
 have SD:∀ i,ax ⟨g0,live X [(b,.vec xs.flatten)],w⟩ (V i) (E i):=fun i=>by
  refine ax.DS (by rw [Ed _ (sc i),Bz]) fun j x u hx hu=>?_;have hj:j<k:=by have:=(List.getElem?_eq_some_iff.1 hu).1;rw [Bz] at this;exact this
  obtain ⟨x',b1,_,_,b4⟩:=nJ i j hj;rw [SC i j hj] at hu;rw [hx] at b1;cases b1;cases hu
  exact b4
 let cf:Fin n->Fin n->Int:=fun i j=>cmp (V i) (V j)
 have hI:Inhabited (Fin n):=⟨⟨0,hn⟩⟩
 let d:Array (Fin n):=Array.ofFn fun i:Fin n=>i
 have sJ:d.size=n:=(by simp [d]);have y6:∀ i (hi:i<n),d[i]! = ⟨i,hi⟩:=fun i hi=>by rw [getElem!_pos d i (by rw [sJ];exact hi)];simp [d]
 have hH:HoldsK E k w p.block (p.off+0) d:=by
  intro t ht;rw [size_flatK,sJ] at ht;obtain ⟨m1,m2,m3⟩:=Hy ht;rw [get_flatK E k d t (by rw [sJ];exact ht),y6 _ m1,Nat.add_zero];refine ⟨?_,frozen_of_row w p.block _ cc _ h4⟩;rw [cell_of_row w p.block _ cc _ _ h4];obtain ⟨x,b1,b2,b3,b4⟩:=nJ ⟨t / k,m1⟩ (t % k) m2;have wX:t % k<(E ⟨t / k,m1⟩).length:=by rw [Bz];exact m2
  show cc[p.off+t]?=some (id ((E ⟨t / k,m1⟩)[t % k]!));rw [getElem!_pos (E ⟨t / k,m1⟩) (t % k) wX];have:=SC ⟨t / k,m1⟩ (t % k) m2;rw [List.getElem?_eq_getElem wX] at this;rw [id,Option.some.inj this];simp only at b2;rw [<- m3] at b2 ⊢;exact b2
 -- any row of the y7
 have SE:∀ (dk:Array (Fin n)) (m:Nat) (os:Array Obj),dk.size=n ->
   CW X g0 [(b,.vec (dk.toList.map V).flatten)] (sortWorldK E k w p.block (p.off+0) m dk os)/\Step X g0 [(b,.vec xs.flatten)] w g0 [(b,.vec (dk.toList.map V).flatten)] (sortWorldK E k w p.block (p.off+0) m dk os):=by
  intro dk m os mr;have SF:∀ x∈dk.toList.map V,x.length=k:=fun x hx=>by obtain ⟨i,_,rfl⟩:=List.mem_map.1 hx;exact Ed _ (sc i)
  have SG:dk.toList.length=n:=(by simpa using mr);have SH:((dk.toList.map V).flatten).length=n*k:=(by rw [Hw SF,List.length_map,SG]);have SI:∀ x∈dk.toList.map E,x.length=k:=fun x hx=>by obtain ⟨i,_,rfl⟩:=List.mem_map.1 hx;exact Bz i
  have LX:((dk.toList.map E).flatten).length=n*k:=(by rw [Hw SI,List.length_map,SG]);have Ee:(putRowK E k (Sort.ahead w m) p.block (p.off+0) dk).heap=w.heap.modify p.block (onCells (putCells id (p.off+0) (flatK E k dk))):=rfl;have SJ:∀ i,i<n->dk.toList[i]?=some (dk[i]!):=fun i hi=>by rw [Array.getElem?_toList,Array.getElem?_eq_getElem (by omega),getElem!_pos dk i (by omega)]
  have y8:∀ t,t<n*k->((dk.toList.map V).flatten)[t]?=(V dk[t / k]!)[t % k]?:=fun t ht=>by obtain ⟨m1,m2,m3⟩:=Hy ht;have:=Hx (i:=t / k) (j:=t % k) (x:=V dk[t / k]!) iO SF (by rw [List.getElem?_map,SJ _ m1];rfl) m2;rw [<- m3] at this;exact this
  have SK:∀ t,t<n*k->((dk.toList.map E).flatten)[t]?=(E dk[t / k]!)[t % k]?:=fun t ht=>by obtain ⟨m1,m2,m3⟩:=Hy ht;have:=Hx (i:=t / k) (j:=t % k) (x:=E dk[t / k]!) iO SI (by rw [List.getElem?_map,SJ _ m1];rfl) m2;rw [<- m3] at this;exact this
  refine v8 (l1:=[]) (l2:=[]) (l:=(dk.toList.map V).flatten) (us:=(dk.toList.map E).flatten) (w':=sortWorldK E k w p.block (p.off+0) m dk os) (eE:=putCells id (p.off+0) (flatK E k dk) cc)
   hc hp h4 (by rw [SH,dP]) rfl ⟨rfl,Nat.le_add_right _ _⟩ rfl (by
    have e0:(putRowK E k (Sort.ahead w m) p.block (p.off+0) dk).heap.size=w.heap.size:=by rw [Ee];simp
    unfold sortWorldK grow;simp only [Array.size_append];omega) (fun aS hb aJ=>?_) ?_ (by simp [putCells]) (fun t u hu=>?_) (ax.DS (by rw [SH,LX]) fun t x u hx hu=>?_) (fun u hu=>?_)
  ·unfold sortWorldK;rw [heap_grow_old _ _ (by rw [Ee];simpa using hb),Ee,Array.getElem?_modify,if_neg (Ne.symm aJ)]
  ·unfold sortWorldK;rw [heap_grow_old _ _ (by rw [Ee];simpa using aI),Ee,Array.getElem?_modify,if_pos rfl,h4];rfl
  ·have ht:t<n*k:=by have:=(List.getElem?_eq_some_iff.1 hu).1;rw [LX] at this;exact this
   rw [SK t ht] at hu;have wX:p.off+t<cc.size:=(by omega);simp only [putCells,Array.getElem?_mapIdx,Array.getElem?_eq_getElem wX,Option.map_some,Nat.add_zero,size_flatK,mr];rw [if_pos ⟨by omega,by omega⟩,show p.off+t - p.off=t from by omega,get_flatK E k dk t (by rw [mr];exact ht)];obtain ⟨m1,m2,m3⟩:=Hy ht;have hl:t % k<(E dk[t / k]!).length:=by rw [Bz];exact m2
   rw [List.getElem?_eq_getElem hl] at hu;rw [getElem!_pos (E dk[t / k]!) (t % k) hl];exact hu
  ·have ht:t<n*k:=by have:=(List.getElem?_eq_some_iff.1 hu).1;rw [LX] at this;exact this
   rw [SK t ht] at hu;rw [y8 t ht] at hx;obtain ⟨u',a1,a2⟩:=(SD dk[t / k]!).get _ _ hx;rw [hu] at a1;cases a1
   exact a2
  rw [List.mem_flatten] at hu;obtain ⟨l,hl,hu⟩:=hu;obtain ⟨i,_,rfl⟩:=List.mem_map.1 hl;exact Hz i u hu
 have y9:CmpLays P g #[] E k cf p.block (p.off+0) d.size w:=by
  intro m os dk mr x y;rw [sJ] at mr;obtain ⟨c1,s1⟩:=SE dk m os mr;obtain ⟨c2,s2⟩:=c1.sub (h':=[]) (fun k o hm=>by cases hm) (by simp [keys]);have hq:=zL (V x) (sc x) (V y) (sc y)
  have gA:ax ⟨g0,live X [],sortWorldK E k w p.block (p.off+0) m dk os⟩ [.agg (V x),.agg (V y)] [.agg (E x).toArray,.agg (E y).toArray]:=by
   have up:∀ i,ax ⟨g0,live X [],sortWorldK E k w p.block (p.off+0) m dk os⟩ (V i) (E i):=fun i=>ax.mono (Step.le (s1.trans hc.own s2)) _ _ (SD i);simp only [ax];refine ⟨_,_,rfl,?_,_,_,rfl,?_,rfl⟩
   ·rw [aa];exact ⟨_,rfl,fun u hu=>Hz x u (by simpa using hu),by simpa using up x⟩
   rw [aa];exact ⟨_,rfl,fun u hu=>Hz y u (by simpa using hu),by simpa using up y⟩
  refine (wy.calls w9 (hq.1 X g0 _ #[.agg (E x).toArray,.agg (E y).toArray] c2 gA)).mono ?_;rintro e w' ⟨v,u,g',hh,rfl,⟨rfl,rfl⟩,od,hu,Ef⟩;rw [aa] at hu;rw [hu.1];exact ⟨rfl,w6 Ef.os Ef.xW Ef.output Ef.size fun b hb=>(Ef.qo b hb fun k s _ hk=>by cases hk).1⟩
 have z6:SWO (ltOf cf):=by
  refine ⟨fun x=>?_,fun x y z a b=>?_,fun x y z a b=>?_⟩
  ·unfold ltOf;simpa using SB _ (sc x)
  ·unfold ltOf at a b ⊢;simp only [decide_eq_true_eq] at a b ⊢;exact nR _ (sc x) _ (sc y) _ (sc z) a b
  unfold ltOf at a b ⊢;simp only [decide_eq_false_iff_not] at a b ⊢;exact x9 _ (sc x) _ (sc y) _ (sc z) a b
 have hu:us=#[.slice (some ⟨p.block,p.off+0,none⟩) d.size cap,.func (.func g) #[] #[]]:=by rw [<- Array.toList_inj,sJ];simpa using bd
 subst hu;refine (hs (Fin n) hI E cf p.block (p.off+0) cap d w Bz Hz z6 y9 hH aI (by rw [sJ];omega)).mono ?_;rintro e w' ⟨rfl,d',m,os,A0,A1,rfl⟩;obtain ⟨sS,tm,zj⟩:=A0;rw [sJ] at sS;obtain ⟨c1,s1⟩:=SE d' m os sS;refine ⟨.aH [],.tuple #[],g0,_,rfl,⟨rfl,d'.toList.map V,rfl,?_,?_⟩,c1,by rw [aa];exact ⟨#[],rfl,by simp [ax]⟩,s1⟩
 ·have e1:d'.extract 0 d.size=d':=by
   have e0:d.size=d'.size:=(by omega);rw [e0];simp
  have e2:d.extract 0 d.size=d:=(by simp);rw [e1,e2] at zj
  have e3:d.toList.map V=xs:=by
   refine List.ext_getElem? fun i=>?_;by_cases hi:i<n
   ·rw [List.getElem?_map,Array.getElem?_toList,Array.getElem?_eq_getElem (by omega)];simp [d,V,hi]
   rw [List.getElem?_eq_none (by simp [sJ];omega),List.getElem?_eq_none (by omega)]
  rw [<- e3];exact zj.map V
 rw [List.pairwise_map,List.pairwise_iff_getElem];intro i j hi hj HA;have dO:i<d'.size:=(by simpa using hi);have yi:j<d'.size:=(by simpa using hj);have:=A1 i j (Nat.zero_le _) HA (by rw [sJ,<- sS];exact yi);unfold ltOf at this;simp only [decide_eq_false_iff_not] at this;rw [getElem!_pos d' i dO,getElem!_pos d' j yi] at this;simpa using this
end
end Go.Abs
/-
 The abstract fS,part Z3: the y7 law,out of the v7 s9.
-/
namespace Go.Abs
open Go Go.Sort Go.Proofs Go.Shelf
theorem SL {P:Program} {ρ:Ren} (L:SlLaysF0.n6 P ρ) (k g:Nat) (aE:∀ w,(isAgg (ρ.t 24)).run P w=.ok true w) (zE:∀ w,(Go.sizeOf (ρ.t 24)).run P w=.ok k w)
  (eg:∀ args w,(callFunc g args).run P w=.ok (.enter g args) w):By P (ρ.f 6) g k:=fun _ _ enc cf aS off cap d w hk h1 hO zL hH hb hs=>
 AnyQ.slices_SortFunc L k aE zE enc hk h1 cf hO g #[] aS off cap d w eg zL hH hb hs
end Go.Abs
/-
 The HB,from the a0B a0C to the abstract fS: xV is read as plain data is there,and a call that answers true and leaves the qo memory alone keeps the statement.
-/
namespace Go.Proofs.YtbmcnieifibckaaGreat.Br
open Go Go.Abs Go.ChangeShapes Go.WideShapes Go.RowKit
inductive Sh (P:Program) (B:Nat):TypeId->List AV->Prop
 | bool {t:TypeId} {b:Bool}:P.underlying t=some .bool->Sh P B t [.bool b]
 | int {t:TypeId} {k:IntKind} {n:Int}:P.underlying t=some (.int k)->(Lit.int k n).wf=true->Sh P B t [.int k n]
 | str {t:TypeId} {s:List UInt8}:P.underlying t=some .string->s.length<=B->Sh P B t [.str s]
 | slice {t e:TypeId} {ys:List (List AV)}:P.underlying t=some (.slice e)->ys.length<=B->(∀ y∈ys,Sh P B e y)->Sh P B t [.sl (P.cellsOf e) none ys]
 | struct {t:TypeId} {fs:Array Field} {parts:List (List AV)}:P.underlying t=some (.struct fs)->parts.length=fs.toList.length ->
    (∀ (i:Nat) f p,fs.toList[i]?=some f->parts[i]?=some p->Sh P B f.type p)->Sh P B t parts.flatten
 | array {t e:TypeId} {n:Nat} {parts:List (List AV)}:P.underlying t=some (.array n e)->parts.length=n->(∀ p∈parts,Sh P B e p)->Sh P B t parts.flatten
def flat (P:Program):Nat->TypeId->Bool
 | 0,_=>false
 | n+1,t=>match P.underlying t with
   | some .bool=>true
   | some (.int _)=>true
   | some .string=>true
   | some (.slice e)=>flat P n e&&Nat.ble 1 (P.cellsOf e)
   | some (.struct fs)=>fs.toList.all fun f=>flat P n f.type
   | some (.array _ e)=>flat P n e
   | _=>false
def c0 (W:World):Cx:=⟨⟨fun _=>none,fun _=>none⟩,live (fun _=>False) [],W⟩
theorem A2 (W:World) (b o:Nat):(c0 W).fr b o:=by intro k s h;cases h
section
variable {H:Type} {enc:TypeId × Value->H} {P:Program} {W:World}
theorem A3 {α β:Type} {f:α->Option β}:∀ {l:List α} {r:List β},l.mapM f=some r->r.length=l.length/\∀ (i:Nat) a,l[i]?=some a->∃ b,f a=some b/\r[i]?=some b:=by
 intro l;induction l with
 | nil=>intro r h;simp at h;subst h;exact ⟨rfl,fun i a h=>by cases h⟩
 | cons x l ih=>
   intro r h;simp only [List.mapM_cons,Option.bind_eq_bind,Option.bind_eq_some_iff,Option.pure_def] at h;obtain ⟨b,hb,r',uc,h⟩:=h;cases h
   obtain ⟨h1,h2⟩:=ih uc;refine ⟨by simp [h1],fun i a ha=>?_⟩;cases i with
   | zero=>cases ha;exact ⟨b,hb,rfl⟩
   | succ i=>exact h2 i a (by simpa using ha)
theorem LY (l:List (DataW H)) (d:DataW H) (h:d∈l):Rows.uptoBulk d<=Rows.uptoBulkAll l:=by
 induction l with
 | nil=>cases h
 | cons x r ih=>
   simp only [Rows.uptoBulkAll];cases List.mem_cons.1 h with
   | inl e=>subst e;omega
   | inr e=>have:=ih e;omega
theorem A4 (d:DataW H):1<=Rows.uptoBulk d:=by
 cases d with
 | lit l=>cases l<;>simp [Rows.uptoBulk]
 | _=>simp [Rows.uptoBulk]
theorem A5 (l:List (DataW H)):l.length<=Rows.uptoBulkAll l:=by
 induction l with
 | nil=>simp [Rows.uptoBulkAll]
 | cons x r ih=>have:=A4 x;simp only [Rows.uptoBulkAll,List.length_cons];omega
theorem SM (a:Addr) (n:Nat):(a.add n).block=a.block:=by unfold Addr.add;split<;>rfl
theorem SN (a:Addr) (n:Nat):(a.add n).off=a.off+n:=by
 unfold Addr.add;split
 ·rename_i h;subst h;rfl
 rfl
theorem A6 {a:Addr} {n:Nat} {u:Value} (h:W.cell? (a.add n)=some u):W.cell? ⟨a.block,a.off+n,none⟩=some u:=by
 unfold World.cell? at h ⊢;rw [SM,SN] at h;split at h
 ·rename_i hb;simp only [hb];split at h
  ·cases h
  simpa using h
 cases h
theorem SO {a:Addr} {n:Nat} {us:List Value} {xs:List AV} (h:W.cells? 0 a n=some us) (hr:ax (c0 W) xs us) (h1:∀ u∈us,u.oneCell'=true) :
  us.length=n/\(0<n->a.spot=none)/\bA (c0 W) xs a.block a.off:=by
 unfold World.cells? at h;rw [if_pos (Nat.zero_le _)] at h;obtain ⟨hl,hg⟩:=A3 h;simp at hl;refine ⟨hl,fun hn=>?_,?_⟩
 ·obtain ⟨u,hu,_⟩:=hg 0 0 (by simp [hn]);unfold World.cell? at hu;split at hu
  ·split at hu
   ·cases hu
   rename_i hs;simpa [Addr.add] using hs
  cases hu
 have key:∀ (xs:List AV) (us:List Value) (o:Nat),ax (c0 W) xs us->(∀ u∈us,u.oneCell'=true)->(∀ (i:Nat) u,us[i]?=some u->W.cell? ⟨a.block,a.off+(o+i),none⟩=some u)->bA (c0 W) xs a.block (a.off+o):=by
  intro xs;induction xs with
  | nil=>intro us o _ _ _;simp [bA]
  | cons x xs ih=>
    intro us o hr h1 hc;simp only [ax] at hr;obtain ⟨u,r,rfl,hu,hr⟩:=hr;simp only [bA];refine ⟨⟨u,hc 0 u rfl,h1 u (by simp),A2 W _ _,hu⟩,?_⟩
    have:=ih r (o+1) hr (fun u hu=>h1 u (by simp [hu])) (fun i u hi=>by
     have:=hc (i+1) u (by simpa using hi);rwa [show o+(i+1)=o+1+i from by omega] at this)
    rwa [show a.off+o+1=a.off+(o+1) from rfl]
 have:=key xs us 0 hr h1 (fun i u hi=>by
  have aI:=(List.getElem?_eq_some_iff.1 hi).1;obtain ⟨u',dA,dO⟩:=hg i i (List.getElem?_range (by omega));rw [hi] at dO;cases dO
  rw [show a.off+(0+i)=a.off+i from by omega];exact A6 dA)
 simpa using this
theorem SP {k:IntKind} {n:Int} (h:(Lit.int k n).wf=true):k.has n:=by simp only [Lit.wf,Bool.and_eq_true,decide_eq_true_eq] at h;simpa [IntKind.has] using h
theorem A7 (K:Kids P (·<P.types.size)) {t:TypeId} {fs:Array Field} (ht:t<P.types.size) (hu:P.underlying t=some (.struct fs)) {cs:List Value} (hl:cs.length=P.cellsOf t) :
  (fs.toList.map fun f=>(cs.drop f.offset).take (P.cellsOf f.type)).flatten=cs:=by
 obtain ⟨_,h2,h3⟩:=K.struct ht hu
 have key:∀ (l:List Field) (o:Nat),(∀ (j:Nat) f,l[j]?=some f->f.offset=o+((l.take j).map fun f=>P.cellsOf f.type).sum)->(l.map fun f:Field=>(cs.drop f.offset).take (P.cellsOf f.type)).flatten=(cs.drop o).take ((l.map fun f=>P.cellsOf f.type).sum):=by
  intro l;induction l with
  | nil=>intro o _;simp
  | cons f l ih=>
    intro o h;have h0:=h 0 f rfl;simp at h0;simp only [List.map_cons,List.flatten_cons,List.sum_cons]
    rw [ih (o+P.cellsOf f.type) (fun j g hj=>by
     have:=h (j+1) g (by simpa using hj);simp only [List.take_succ_cons,List.map_cons,List.sum_cons] at this;omega),h0,List.take_add,List.drop_drop]
 rw [key fs.toList 0 (fun j f hj=>by simpa using h3 j f hj),<- h2,<- hl];simp
theorem HD (K:Kids P (·<P.types.size)) {B:Nat} (hB:B<=aw):∀ (m n:Nat) (t:TypeId) (cs:List Value) (x:DataW H × List MemPlace),flat P m t=true->t<P.types.size ->
  DataW.trod enc P W 0 (fun _=>true) true n t cs=some x->Rows.uptoBulk x.1<=B->∃ xs,ax (c0 W) xs cs/\Sh P B t xs/\∀ u∈cs,u.oneCell'=true
 | 0,n,t,cs,x,hf,_,_,_=>by cases hf
 | m+1,n,t,cs,x,hf,aI,h,hb=>by
   unfold flat at hf;split at hf
   ·rename_i hu;obtain ⟨b,rfl,rfl⟩:=DataW.trod_bool hu h;exact ⟨[.bool b],by simp [ax,aa],.bool hu,by simp [Value.oneCell']⟩
   ·rename_i k hu;obtain ⟨n,rfl,rfl,hw⟩:=DataW.trod_int hu h;exact ⟨[.int k n],by simp [ax,aa,SP hw],.int hu hw,by simp [Value.oneCell']⟩
   ·rename_i hu;obtain ⟨s,rfl,rfl,hm⟩:=DataW.trod_string hu h;have ij:s.data.toList.length<=B:=by simp [Rows.uptoBulk] at hb;simp;omega
    exact ⟨[.str s.data.toList],by simp only [ax,aa];exact ⟨_,_,rfl,⟨s,rfl,rfl,by omega⟩,rfl⟩,.str hu ij,by simp [Value.oneCell']⟩
   ·rename_i e hu;simp only [Bool.and_eq_true] at hf;have hk:0<P.cellsOf e:=Nat.le_of_ble_eq_true hf.2;have he:e<P.types.size:=K.slice aI hu;rcases DataW.trod_slice hu h with ⟨rfl,rfl⟩|⟨a,len,cap,elems,rest,n',rfl,rfl,rfl,_,rK,fK,ju,iP,_,_⟩
    ·refine ⟨[.sl (P.cellsOf e) none []],?_,.slice hu (Nat.zero_le _) (by simp),by simp [Value.oneCell']⟩;simp only [ax];exact ⟨_,_,rfl,ag.nil hk _ _ (by simp [aa]),rfl⟩
    have zM:elems.length<=B/\∀ y∈elems,Rows.uptoBulk y.1<=B:=by simp only [Rows.uptoBulk] at hb;have h1:=A5 (elems.map (·.1));simp at h1;refine ⟨by omega,fun y hy=>?_⟩;have:=LY (elems.map (·.1)) y.1 (List.mem_map.2 ⟨y,hy,rfl⟩);omega
    have each:∀ i,i<len->∃ (xs:List AV) (us:List Value),W.cells? 0 (a.add (i*P.cellsOf e)) (P.cellsOf e)=some us/\ax (c0 W) xs us/\Sh P B e xs/\∀ u∈us,u.oneCell'=true:=by intro i hi;have hx:=iP i hi;have Fp:i<elems.length:=(by omega);rw [List.getElem?_eq_getElem Fp] at hx;simp only [Option.bind_eq_some_iff] at hx;obtain ⟨us,bd,nR⟩:=hx;obtain ⟨xs,h1,h2,h3⟩:=HD K hB m n' e us _ hf.1 he nR (zM.2 _ (List.getElem_mem Fp));exact ⟨xs,us,bd,h1,h2,h3⟩
    have build:∀ j i,i+j=len->∃ ys:List (List AV),ys.length=j/\(∀ y∈ys,Sh P B e y)/\cm (c0 W) (P.cellsOf e) ys a.block (a.off+i*P.cellsOf e):=by
     intro j;induction j with
     | zero=>intro i _;exact ⟨[],rfl,by simp,by simp [cm]⟩
     | succ j ih=>
       intro i HA;obtain ⟨xs,us,bd,h1,h2,h3⟩:=each i (by omega);obtain ⟨hn,jf,hr⟩:=SO bd h1 h3;obtain ⟨ys,HE,HF,SQ⟩:=ih (i+1) (by omega);refine ⟨xs::ys,by simp [HE],by intro y hy;cases List.mem_cons.1 hy with|inl e=>subst e;exact h2|inr e=>exact HF y e,?_⟩;simp only [cm];refine ⟨⟨by rw [<- h1.length];exact hn,by rw [SM,SN] at hr;exact hr⟩,?_⟩;rwa [show a.off+i*P.cellsOf e+P.cellsOf e=a.off+(i+1)*P.cellsOf e from by rw [Nat.succ_mul];omega]
    obtain ⟨ys,HE,HF,SQ⟩:=build len 0 (by omega);refine ⟨[.sl (P.cellsOf e) none ys],?_,.slice hu (by omega) HF,by simp [Value.oneCell']⟩;simp only [ax,aa];refine ⟨_,_,rfl,⟨some a,cap,by rw [HE],by omega,by omega,hk,by simp,?_,?_,by simp⟩,rfl⟩
    ·rintro a' ⟨⟩ aJ
     have:0<len:=by
      cases ys with
      | nil=>exact absurd rfl aJ
      | cons _ _=>simp at HE;omega
     obtain ⟨xs,us,bd,h1,h2,h3⟩:=each 0 this;have:=(SO bd h1 h3).2.1 hk;simpa [Addr.add] using this
    rintro a' ⟨⟩;simpa using SQ
   ·rename_i fs hu;obtain ⟨xs,n',rfl,rfl,hl,hlen,hg⟩:=DataW.trod_struct hu h;have zM:∀ y∈xs,Rows.uptoBulk y.1<=B:=by simp only [Rows.uptoBulk] at hb;intro y hy;have:=LY (xs.map (·.1)) y.1 (List.mem_map.2 ⟨y,hy,rfl⟩);omega
    obtain ⟨k1,k2,k3⟩:=K.struct aI hu
    have each:∀ (i:Nat) (f:Field),fs.toList[i]?=some f->∃ p,ax (c0 W) p ((cs.drop f.offset).take (P.cellsOf f.type))/\Sh P B f.type p/\∀ u∈(cs.drop f.offset).take (P.cellsOf f.type),u.oneCell'=true:=by
     intro i f HG;have oc:i<xs.length:=by have:=(List.getElem?_eq_some_iff.1 HG).1;simp at this;omega
     have hx:=hg i f (by simpa using HG);rw [List.getElem?_eq_getElem oc] at hx;exact HD K hB m n' f.type _ _ (List.all_eq_true.1 hf f (List.mem_of_getElem? HG)) (k1 f (List.mem_of_getElem? HG)) hx (zM _ (List.getElem_mem oc))
    have build:∀ (l:List Field) ,(∀ f∈l,∃ p,ax (c0 W) p ((cs.drop f.offset).take (P.cellsOf f.type))/\Sh P B f.type p/\∀ u∈(cs.drop f.offset).take (P.cellsOf f.type),u.oneCell'=true) ->
      ∃ parts:List (List AV),parts.length=l.length/\(∀ (i:Nat) f p,l[i]?=some f->parts[i]?=some p->Sh P B f.type p)/\ax (c0 W) parts.flatten (l.map fun f:Field=>(cs.drop f.offset).take (P.cellsOf f.type)).flatten /\
       ∀ u∈(l.map fun f:Field=>(cs.drop f.offset).take (P.cellsOf f.type)).flatten,u.oneCell'=true:=by
     intro l;induction l with
     | nil=>intro _;exact ⟨[],rfl,by simp,by simp [ax],by simp⟩
     | cons f l ih=>
       intro h;obtain ⟨p,h1,h2,h3⟩:=h f (by simp);obtain ⟨parts,g1,g2,g3,g4⟩:=ih (fun f hf=>h f (by simp [hf]));refine ⟨p::parts,by simp [g1],?_,?_,?_⟩
       ·intro i f' p' hi hp;cases i with
        | zero=>cases hi;cases hp;exact h2
        | succ i=>exact g2 i f' p' (by simpa using hi) (by simpa using hp)
       ·simp only [List.map_cons,List.flatten_cons];exact ax.append h1 g3
       intro u hu;simp only [List.map_cons,List.flatten_cons,List.mem_append] at hu;exact hu.elim (h3 u) (g4 u)
    obtain ⟨parts,g1,g2,g3,g4⟩:=build fs.toList (fun f hf=>by
     obtain ⟨i,hi⟩:=List.mem_iff_getElem?.1 hf;exact each i f hi)
    rw [A7 K aI hu hl] at g3 g4;exact ⟨parts.flatten,g3,.struct hu g1 g2,g4⟩
   ·rename_i N e hu;obtain ⟨xs,n',rfl,rfl,hl,hlen,hg⟩:=DataW.trod_array hu h;obtain ⟨k1,k2⟩:=K.array aI hu;have zM:∀ y∈xs,Rows.uptoBulk y.1<=B:=by simp only [Rows.uptoBulk] at hb;intro y hy;have:=LY (xs.map (·.1)) y.1 (List.mem_map.2 ⟨y,hy,rfl⟩);omega
    have each:∀ i,i<N->∃ p,ax (c0 W) p ((cs.drop (i*P.cellsOf e)).take (P.cellsOf e))/\Sh P B e p/\∀ u∈(cs.drop (i*P.cellsOf e)).take (P.cellsOf e),u.oneCell'=true:=by intro i hi;have oc:i<xs.length:=(by omega);have hx:=hg i hi;rw [List.getElem?_eq_getElem oc] at hx;exact HD K hB m n' e _ _ hf k1 hx (zM _ (List.getElem_mem oc))
    have build:∀ j i,i+j=N->∃ parts:List (List AV),parts.length=j/\(∀ p∈parts,Sh P B e p)/\ax (c0 W) parts.flatten (cs.drop (i*P.cellsOf e))/\∀ u∈cs.drop (i*P.cellsOf e),u.oneCell'=true:=by
     intro j;induction j with
     | zero=>
       intro i hi;have h0:cs.drop (i*P.cellsOf e)=[]:=List.drop_eq_nil_of_le (by rw [hl,k2,show i=N by omega];exact Nat.le_refl _);rw [h0];exact ⟨[],rfl,by simp,by simp [ax],by simp⟩
     | succ j ih=>
       intro i hi;obtain ⟨p,h1,h2,h3⟩:=each i (by omega);obtain ⟨parts,g1,g2,g3,g4⟩:=ih (i+1) (by omega);have vw:cs.drop (i*P.cellsOf e)=(cs.drop (i*P.cellsOf e)).take (P.cellsOf e)++cs.drop ((i+1)*P.cellsOf e):=(by rw [Nat.succ_mul,<- List.drop_drop,List.take_append_drop]);rw [vw];refine ⟨p::parts,by simp [g1],?_,?_,?_⟩
       ·intro y hy;rcases List.mem_cons.1 hy with rfl|hy
        ·exact h2
        exact g2 y hy
       ·simp only [List.flatten_cons];exact ax.append h1 g3
       intro u hu;exact (List.mem_append.1 hu).elim (h3 u) (g4 u)
    obtain ⟨parts,g1,g2,g3,g4⟩:=build N 0 (by omega);rw [Nat.zero_mul,List.drop_zero] at g3 g4;exact ⟨parts.flatten,g3,.array hu g1 g2,g4⟩
   cases hf
def qQ (P:Program) (B:Nat) (t:TypeId) (x:AV):Prop:=∃ xs,Sh P B t xs/\match P.underlying t with
 | some (.struct _)=>x=.agg xs
 | some (.array _ _)=>x=.agg xs
 | _=>xs=[x]
def xK (P:Program) (B:Nat):List TypeId->List AV->Prop
 | [],[]=>True
 | t::ts,x::xs=>qQ P B t x/\xK P B ts xs
 | _,_=>False
theorem A8 (K:Kids P (·<P.types.size)) {B:Nat} (hB:B<=aw) {m:Nat} {t:TypeId} {v:Value} {d:DataW H} {ps:List MemPlace} {base:Nat} (hf:flat P m t=true) (aI:t<P.types.size)
  (bf:Value.okWide P W .any base t v) (h:DataW.Trod enc P W 0 (fun _=>true) true t v d ps) (hb:Rows.uptoBulk d<=B):∃ x,aa (c0 W) x v/\qQ P B t x:=by
 obtain ⟨n,h⟩:=h;obtain ⟨xs,h1,h2,h3⟩:=HD K hB m n t _ _ hf aI h hb
 have one:∀ x,xs=[x]->(∀ cs,v≠.agg cs)->(∀ fs,P.underlying t≠some (.struct fs))/\(∀ n e,P.underlying t≠some (.array n e))->∃ x,aa (c0 W) x v/\qQ P B t x:=by
  rintro x rfl aJ Eg;have hv:v.cells.toList=[v]:=by cases v<;>first|rfl|exact absurd rfl (aJ _)
  rw [hv] at h1;simp only [ax] at h1;obtain ⟨u,r,hu,hx,rfl⟩:=h1;cases hu
  refine ⟨x,hx,[x],h2,?_⟩;split
  ·rename_i fs zF;exact absurd zF (Eg.1 fs)
  ·rename_i n e zF;exact absurd zF (Eg.2 n e)
  rfl
 unfold Value.okWide at bf;cases h2 with
 | bool hu=>
   rw [hu] at bf;refine one _ rfl (fun cs hv=>?_) (by rw [hu];simp);subst hv;simp [Cell.okWide,hu,Cell.ok] at bf
 | int hu hw=>
   rw [hu] at bf;refine one _ rfl (fun cs hv=>?_) (by rw [hu];simp);subst hv;simp [Cell.okWide,hu,Cell.ok] at bf
 | str hu hl=>
   rw [hu] at bf;refine one _ rfl (fun cs hv=>?_) (by rw [hu];simp);subst hv;simp [Cell.okWide,hu,Cell.ok] at bf
 | slice hu hl hy=>
   rw [hu] at bf;refine one _ rfl (fun cs hv=>?_) (by rw [hu];simp);subst hv;simp [Cell.okWide,hu,Cell.ok] at bf
 | @struct _ fs parts hu hl hp=>
   rw [hu] at bf;obtain ⟨cs,rfl,iG,_⟩:=bf;refine ⟨.agg parts.flatten,?_,parts.flatten,.struct hu hl hp,by rw [hu]⟩;simp only [aa];exact ⟨cs,rfl,fun u hu=>h3 u (by simpa [Value.cells] using hu),h1⟩
 | @array _ e n parts hu hl hp=>
   rw [hu] at bf;obtain ⟨cs,rfl,iG,_⟩:=bf;refine ⟨.agg parts.flatten,?_,parts.flatten,.array hu hl hp,by rw [hu]⟩;simp only [aa];exact ⟨cs,rfl,fun u hu=>h3 u (by simpa [Value.cells] using hu),h1⟩
theorem SR (K:Kids P (·<P.types.size)) {B:Nat} (hB:B<=aw) {m:Nat} {base:Nat}:∀ {ts:List TypeId} {vs:List Value} {ds:List (DataW H)} {ps:List MemPlace},(∀ t∈ts,flat P m t=true/\t<P.types.size) ->
  (∀ (j:Nat) t v,ts[j]?=some t->vs[j]?=some v->Value.okWide P W .any base t v)->DataW.TrodAll enc P W 0 (fun _=>true) true ts vs ds ps->Rows.uptoBulkAll ds<=B ->
  ∃ xs,ax (c0 W) xs vs/\xK P B ts xs
 | [],vs,ds,ps,_,_,h,_=>by obtain ⟨rfl,rfl,rfl⟩:=trodAll_nil h;exact ⟨[],by simp [ax],trivial⟩
 | t::ts,vs,ds,ps,hf,bf,h,hb=>by obtain ⟨v,LZ,d,SS,a,b,rfl,rfl,rfl,h1,h2⟩:=trodAll_cons h;simp only [Rows.uptoBulkAll] at hb;obtain ⟨x,hx,hs⟩:=A8 K hB (hf t (by simp)).1 (hf t (by simp)).2 (bf 0 t v rfl rfl) h1 (by omega);obtain ⟨xs,RT,A9⟩:=SR K hB (fun t ht=>hf t (by simp [ht])) (fun j t v h1 h2=>bf (j+1) t v (by simpa using h1) (by simpa using h2)) h2 (by omega);exact ⟨x::xs,by simp only [ax];exact ⟨v,LZ,rfl,hx,RT⟩,hs,A9⟩
theorem SU {W':World} {sp:Nat->Bool} (K:Kids P (·<P.types.size)) (hz:∀ {t e:TypeId},t<P.types.size->P.underlying t=some (.slice e)->0<P.cellsOf e) :
  ∀ {ts:List TypeId} {vs:List Value} {ds:List (DataW H)} {ps:List MemPlace},(∀ t∈ts,t<P.types.size)->DataW.TrodAll enc P W 0 (fun _=>true) true ts vs ds ps->(∀ p∈ps,W.sameAt W' p)->(∀ p∈ps,sp p.block=true) ->
   DataW.TrodAll enc P W' 0 sp true ts vs ds ps
 | [],vs,ds,ps,_,h,_,_=>by obtain ⟨rfl,rfl,rfl⟩:=trodAll_nil h;exact trodAll_mk0
 | t::ts,vs,ds,ps,hT,h,hs,hp=>by
   obtain ⟨v,LZ,d,SS,a,b,rfl,rfl,rfl,⟨n,h1⟩,h2⟩:=trodAll_cons h
   exact ⟨a,b,⟨n,DataW.trod_stays K hz (fun hh=>by cases hh) (hT t (by simp)) h1 (fun p hp=>hs p (by simp [hp])) (fun p hq=>hp p (by simp [hq]))⟩,
    SU K hz (fun t ht=>hT t (by simp [ht])) h2 (fun p hp=>hs p (by simp [hp])) (fun p hq=>hp p (by simp [hq])),rfl⟩
theorem SV:∀ {ts:List TypeId} {vs:List Value} {ds:List (DataW H)} {ps:List MemPlace},DataW.TrodAll enc P W 0 (fun _=>true) true ts vs ds ps->ds.length=ts.length
 | [],_,_,_,h=>by obtain ⟨rfl,rfl,_⟩:=trodAll_nil h;rfl
 | t::ts,_,_,_,h=>by obtain ⟨v,LZ,d,SS,a,b,rfl,rfl,rfl,h1,h2⟩:=trodAll_cons h;simp [SV h2]
theorem B0 (W:World):CW (fun _=>False) ⟨fun _=>none,fun _=>none⟩ [] W:=by
 refine ⟨by simp,⟨0,?_⟩,by simp [keys],by simp [keys],by simp⟩;rintro k (h|h|h|⟨b,s,h⟩)
 ·exact h.elim
 ·simp [keys] at h
 ·exact absurd rfl h
 cases h
theorem HB {f:FuncId} {fn:Func} {s:ChangeSpec} {m:Nat} {tb:TypeId} (K:Kids P (·<P.types.size)) (hz:∀ {t e:TypeId},t<P.types.size->P.underlying t=some (.slice e)->0<P.cellsOf e)
  (SX:s.vars=[]) (Ma:∀ ds:List (DataW H),ds.length=fn.params.toList.length->s.fn H ds={ results:=[.lit (.bool true)],args:=ds })
  (wD:fn.resultTypes=#[tb]) (B1:P.underlying tb=some .bool) (SY:∀ t∈fn.params.toList,flat P m t=true/\t<P.types.size)
  (cR:tT P f) (law:∀ xs,xK P 1048576 fn.params.toList xs->ae P f xs [] (.bool true))
  {base:Nat} {args:Array Value} {ds gs:List (DataW H)} {before:List MemPlace}
  (zN:∀ (j:Nat) t v,fn.params[j]?=some t->args[j]?=some v->Value.okWide P W .any base t v)
  (hW:DataW.Whole enc P fn.params.toList s.vars false W args.toList ds gs before) (hk:Rows.uptoSmall H (ds++gs)=true) :
  Calls P f args W fun e W'=>∃ v,e=.returned v/\s.post enc P fn false true false false W args v W':=by
 have aI:=hW.lt;have B2:=hW;rw [SX] at hW;obtain ⟨p,q,hA,hV,SZ,hfz,er⟩:=hW
 obtain ⟨rfl,rfl⟩:gs=[]/\q=[]:=by
  cases gs with
  | nil=>simp only [DataW.TrodVars] at hV;exact ⟨rfl,hV⟩
  | cons _ _=>simp [DataW.TrodVars] at hV
 simp only [List.append_nil] at SZ hk;subst SZ;have zM:Rows.uptoBulkAll ds<=1048576:=of_decide_eq_true hk;obtain ⟨xs,cN,yC⟩:=SR K (B:=1048576) (by unfold aw;omega) SY (fun j t v h1 h2=>zN j t v (by simpa using h1) (by simpa using h2)) hA zM;have hlen:ds.length=fn.params.toList.length:=(SV hA);refine (wy.calls cR ((law xs yC).calls (fun _=>False) ⟨fun _=>none,fun _=>none⟩ W args (B0 W) cN)).mono ?_;rintro e W' ⟨v,u,g',h',rfl,⟨rfl,rfl⟩,hc,hu,aF⟩;simp only [aa] at hu;subst hu;have hold:∀ b,b<W.heap.size->W'.heap[b]?=W.heap[b]?:=fun b hb=>(aF.qo b hb (fun k s h=>by cases h)).1
 have B3:∀ p∈before,W.sameAt W' p:=by
  intro p hp;have:=aI p hp;cases p with
  | cell b off=>simp only [World.sameAt,World.cell?];rw [hold b this]
  | map b=>exact hold b this
 refine ⟨_,rfl,ds,[],before,[],before,[],B2,?_,?_,?_,?_,fun h=>by cases h⟩
 ·rw [List.append_nil,Ma ds hlen,wD];exact trodAll_mk1 (shut_bool B1 _)
 ·rw [List.append_nil,Ma ds hlen];exact SU K hz (fun t ht=>(SY t ht).2) hA B3 (fun p hp=>by simpa using aI p hp)
 ·rw [SX,List.append_nil,Ma ds hlen];simp [DataW.TrodVars]
 refine ⟨aF.os,aF.output,fun i hi=>?_⟩;rw [hold i hi];cases hh:W.heap[i]? with
 | none=>simp
 | some o=>cases o<;>simp
end
end Go.Proofs.YtbmcnieifibckaaGreat.Br
set_option maxRecDepth 100000
set_option maxHeartbeats 2000000
namespace Go.Abs.Wall
open Go Go.Abs Go.Proofs
theorem mixed:Tryz.prog.follows .mixedOrders=true:=by decide
theorem within (n low high:Int):ae Tryz.prog 128 [.int .i64 n,.int .i64 low,.int .i64 high] [] (.bool (decide (low<=n)&&decide (n<=high))):=by refine tC (fn:=Tryz.f128) (code:=(Tryz.f128.body.getD .skip)) (c:=⟨[0,1,2,6],[],[],[],[],[]⟩) rfl rfl rfl mixed (by simp [Tryz.f128]) fun X=>?_;(conv=>whnf);exact ⟨rfl,rfl⟩
theorem BA (n low high:Int):ae Tryz.prog 150 [.int .i64 n,.int .i64 low,.int .i64 high] [] (.bool (decide (low<=n)&&decide (n<=high))):=by refine tC (fn:=Tryz.f150) (code:=(Tryz.f150.body.getD .skip)) (c:=⟨[0,1,2,6],[],[],[],[],[]⟩) rfl rfl rfl mixed (by simp [Tryz.f150]) fun X=>?_;(conv=>whnf);exact ⟨rfl,rfl⟩
def c30:az:=⟨[0,1,4,5,10,14,25],[],[],[],[(6,[0,1,2,3,4,5,6,7,8],[])],[]⟩
theorem QN (a b:List Int) (ha:a.length<=aw) (hb:b.length<=aw):ae Tryz.prog 30 [.sl 1 none (ints a),.sl 1 none (ints b)] [] (.bool (decide (a=b))):=by
 refine tC (fn:=Tryz.f30) (code:=(Tryz.f30.body.getD .skip)) (c:=c30) rfl rfl rfl mixed (by simp [Tryz.f30]) fun X=>?_;unfold aw at ha hb;(conv=>whnf);refine ⟨fun aJ=>?_,fun aJ=>?_⟩
 ·have aJ:(!decide (((ints a).length:Int)=((ints b).length:Int)))=true:=aJ;simp at aJ;(conv=>whnf);refine ⟨congrArg AV.bool ?_,rfl⟩;symm;exact decide_eq_false (fun e=>aJ (by rw [e]))
 have aJ:(!decide (((ints a).length:Int)=((ints b).length:Int)))=false:=aJ;simp at aJ;(conv=>whnf);refine Hb (c:=c30) mixed [0,1,5] [] (fun m r h=>∃ i:Nat,r=[(0,[],.sl 1 none (ints a)),(1,[],.sl 1 none (ints b)),(5,[],.int .i64 i)]/\h=[]/\m=a.length - i/\i<=a.length/\∀ j,j<i->a[j]?=b[j]?) ?_ ?_
 ·(conv=>whnf);exact ⟨_,0,rfl,rfl,rfl,by omega,by intro j hj;omega⟩
 rintro m r h ⟨i,rfl,rfl,rfl,hi,hg⟩;(conv=>whnf);refine ⟨fun hb=>?_,fun hb=>?_⟩
 ·have hb:(i:Int)<((ints a).length:Int):=of_decide_eq_true hb;rw [cg] at hb;have h1:i<a.length:=(by omega);have h2:i<b.length:=(by omega);(conv=>whnf);refine ⟨rfl,?_⟩;(conv=>whnf);refine ⟨i,[.int .i64 a[i]],⟨rfl,Ru (List.getElem?_eq_getElem h1)⟩,?_⟩;(conv=>whnf);refine ⟨i,[.int .i64 b[i]],⟨rfl,Ru (List.getElem?_eq_getElem h2)⟩,?_⟩;(conv=>whnf);refine ⟨fun hc=>?_,fun hc=>?_⟩
  ·have hc:(!decide (a[i]=b[i]))=true:=hc;(conv=>whnf);refine ⟨congrArg AV.bool ?_,rfl⟩;symm;refine decide_eq_false (fun e=>?_);subst e;simp at hc
  have hc:(!decide (a[i]=b[i]))=false:=hc;simp at hc;(conv=>whnf);refine ⟨⟨by omega,by omega⟩,?_⟩;conv=>whnf
  exact ⟨a.length - (i+1),by omega,i+1,rfl,rfl,rfl,by omega,fun j hj=>by
   rcases Nat.lt_succ_iff_lt_or_eq.1 hj with h|rfl
   ·exact hg j h
   rw [List.getElem?_eq_getElem h1,List.getElem?_eq_getElem h2,hc]⟩
 have hb:decide ((i:Int)<((ints a).length:Int))=false:=hb;rw [cg] at hb;have hb:=of_decide_eq_false hb;(conv=>whnf);refine ⟨congrArg AV.bool ?_,rfl⟩;symm;refine decide_eq_true (List.ext_getElem? fun j=>?_);by_cases hj:j<i
 ·exact hg j hj
 rw [List.getElem?_eq_none (by omega),List.getElem?_eq_none (by omega)]
end Go.Abs.Wall
namespace Go.Abs.Wall
open Go Go.Abs Go.Proofs
theorem B4 {α:Type} {enc:α->List AV} {l:List α} {i:Nat} (h:i<l.length):(l.map enc)[i]?=some (enc l[i]):=by simp [List.getElem?_eq_getElem h]
def mg (y:UInt8):Bool:=decide (65<=y.toNat)&&decide (y.toNat<=90)
def small (y:UInt8):Bool:=decide (97<=y.toNat)&&decide (y.toNat<=122)
def digit (y:UInt8):Bool:=decide (48<=y.toNat)&&decide (y.toNat<=57)
def uN (y:UInt8):Bool:=mg y||small y||digit y
def qe (s:List UInt8):Bool:=decide (1<=s.length)&&decide (s.length<=8)&&mg (s[0]?.getD 0)&&s.all uN
def c180:az:=⟨[0,2,3,4,22,26,54],[],[],[],[],[]⟩
theorem xL (a:Nat) (y:UInt8):decide ((a:Int)<=(y.toNat:Int))=decide (a<=y.toNat):=by rw [decide_eq_decide];omega
theorem xM (a:Nat) (y:UInt8):decide ((y.toNat:Int)<=(a:Int))=decide (y.toNat<=a):=by rw [decide_eq_decide];omega
theorem validCode (s:List UInt8) (hs:s.length<=aw):ae Tryz.prog 180 [.str s] [] (.bool (qe s)):=by
 refine tC (fn:=Tryz.f180) (code:=(Tryz.f180.body.getD .skip)) (c:=c180) rfl rfl rfl mixed (by simp [Tryz.f180]) fun X=>?_;unfold aw at hs;have h0:¬ (s.length:Int)<1->((0:Int)=((0:Nat):Int)/\s[0]?=some (s[0]?.getD 0)):=by intro h;refine ⟨rfl,?_⟩;rw [List.getElem?_eq_getElem (show 0<s.length by omega)];rfl
 (conv=>whnf);refine ⟨0,s[0]?.getD 0,fun h1=>?_,?_⟩
 ·have h1:(decide ((s.length:Int)<1)||decide (8<(s.length:Int)))=false:=h1;simp only [Bool.or_eq_false_iff,decide_eq_false_iff_not] at h1;exact h0 h1.1
 (conv=>whnf);refine ⟨0,s[0]?.getD 0,fun h1=>?_,?_⟩
 ·have h1:(decide ((s.length:Int)<1)||decide (8<(s.length:Int))||decide (((s[0]?.getD 0).toNat:Int)<65))=false:=h1;simp only [Bool.or_eq_false_iff,decide_eq_false_iff_not] at h1;exact h0 h1.1.1
 (conv=>whnf);refine ⟨fun hc=>?_,fun hc=>?_⟩
 ·have hc:(decide ((s.length:Int)<1)||decide (8<(s.length:Int))||decide (((s[0]?.getD 0).toNat:Int)<65)||decide (90<((s[0]?.getD 0).toNat:Int)))=true:=hc;(conv=>whnf);refine ⟨congrArg AV.bool ?_,rfl⟩;symm;simp only [Bool.or_eq_true,decide_eq_true_eq] at hc;unfold qe mg;simp only [Bool.and_eq_false_iff,decide_eq_false_iff_not];omega
 have hc:(decide ((s.length:Int)<1)||decide (8<(s.length:Int))||decide (((s[0]?.getD 0).toNat:Int)<65)||decide (90<((s[0]?.getD 0).toNat:Int)))=false:=hc;simp only [Bool.or_eq_false_iff,decide_eq_false_iff_not] at hc;have oF:(decide (1<=s.length)&&decide (s.length<=8)&&mg (s[0]?.getD 0))=true:=by unfold mg;simp only [Bool.and_eq_true,decide_eq_true_eq];omega
 (conv=>whnf);refine Hb (c:=c180) mixed [0,3] [] (fun m r h=>∃ i:Nat,r=[(0,[],.str s),(3,[],.int .i64 i)]/\h=[]/\m=s.length - i/\i<=s.length/\∀ j y,j<i->s[j]?=some y->uN y=true) ?_ ?_
 ·(conv=>whnf);exact ⟨_,0,rfl,rfl,rfl,by omega,by intro j y hj;omega⟩
 rintro m r h ⟨i,rfl,rfl,rfl,hi,hg⟩;(conv=>whnf);refine ⟨fun hb=>?_,fun hb=>?_⟩
 ·have hb:(i:Int)<(s.length:Int):=of_decide_eq_true hb;have aI:i<s.length:=(by omega);have hx:=List.getElem?_eq_getElem aI;(conv=>whnf);refine ⟨i,s[i],⟨rfl,hx⟩,?_⟩
  have e:((decide ((65:Int)<=(s[i].toNat:Int))&&decide ((s[i].toNat:Int)<=90))||(decide ((97:Int)<=(s[i].toNat:Int))&&decide ((s[i].toNat:Int)<=122)) ||
    (decide ((48:Int)<=(s[i].toNat:Int))&&decide ((s[i].toNat:Int)<=57)))=uN s[i]:=by
   unfold uN mg small digit;rw [<- xL,<- xL,<- xL,<- xM,<- xM,<- xM];rfl
  (conv=>whnf);refine ⟨fun hc=>?_,fun hc=>?_⟩
  ·have hc:(!((decide ((65:Int)<=(s[i].toNat:Int))&&decide ((s[i].toNat:Int)<=90))||(decide ((97:Int)<=(s[i].toNat:Int))&&decide ((s[i].toNat:Int)<=122)) ||
    (decide ((48:Int)<=(s[i].toNat:Int))&&decide ((s[i].toNat:Int)<=57))))=true:=hc
   rw [e] at hc;(conv=>whnf);refine ⟨congrArg AV.bool ?_,rfl⟩;symm;unfold qe;rw [Bool.and_eq_false_iff];right;rw [List.all_eq_false];exact ⟨s[i],List.getElem_mem aI,by simpa using hc⟩
  have hc:(!((decide ((65:Int)<=(s[i].toNat:Int))&&decide ((s[i].toNat:Int)<=90))||(decide ((97:Int)<=(s[i].toNat:Int))&&decide ((s[i].toNat:Int)<=122)) ||
   (decide ((48:Int)<=(s[i].toNat:Int))&&decide ((s[i].toNat:Int)<=57))))=false:=hc
  rw [e] at hc;(conv=>whnf);refine ⟨⟨by omega,by omega⟩,?_⟩;(conv=>whnf);refine ⟨s.length - (i+1),by omega,i+1,rfl,rfl,rfl,by omega,fun j y hj hy=>?_⟩;rcases Nat.lt_succ_iff_lt_or_eq.1 hj with h|rfl
  ·exact hg j y h hy
  rw [hx] at hy;cases hy;simpa using hc
 have hb:¬ (i:Int)<(s.length:Int):=of_decide_eq_false hb;(conv=>whnf);refine ⟨congrArg AV.bool ?_,rfl⟩;symm;unfold qe;rw [oF,Bool.true_and,List.all_eq_true];intro y hy;obtain ⟨j,hj,rfl⟩:=List.getElem_of_mem hy;exact hg j _ (by omega) (List.getElem?_eq_getElem hj)
end Go.Abs.Wall
namespace Go.Abs.Wall
open Go Go.Abs Go.Proofs
structure db where
 kind:Int
 text:List UInt8
 fr:Int
 to:Int
def gh (v:db):List AV:=[.int .i64 v.kind,.str v.text,.int .i64 v.fr,.int .i64 v.to]
def c262:az:=⟨[0,1,2],[],[2],[],[],[]⟩
theorem of (v:db):ae Tryz.prog 262 [.agg (gh v)] [] (.agg [.int .i64 v.kind,.str v.text]):=by refine tC (fn:=Tryz.f262) (code:=(Tryz.f262.body.getD .skip)) (c:=c262) rfl rfl rfl mixed (by simp [Tryz.f262]) fun X=>?_;(conv=>whnf);intro b;(conv=>whnf);refine ⟨_,_,bo.here _,⟨by simp,rfl⟩,?_⟩;(conv=>whnf);exact ⟨rfl,rfl⟩
def nz (a b:db):Bool:=(decide (a.kind=b.kind)&&(decide (a.text=b.text)&&true))&&decide (a.fr<=b.to)&&decide (b.fr<=a.to)
def c236:az:=⟨[0,1,2,3,4],[],[],[],[(1,[0,1,2,3,4,5,6,7,8,9,10,11,12,13,14,15,16,17,18,19],[])],[]⟩
theorem meet (a b:db):ae Tryz.prog 236 [.agg (gh a),.agg (gh b)] [] (.bool (nz a b)):=by refine tC (fn:=Tryz.f236) (code:=(Tryz.f236.body.getD .skip)) (c:=c236) rfl rfl rfl mixed (by simp [Tryz.f236]) fun X=>?_;(conv=>whnf);refine ⟨rfl,?_⟩;(conv=>whnf);refine ⟨_,(of a).wide _,?_⟩;(conv=>whnf);refine ⟨_,(of b).wide _,?_⟩;(conv=>whnf);refine ⟨by decide +kernel,?_⟩;(conv=>whnf);exact ⟨rfl,rfl⟩
def c235:az:=⟨[0,1,2,3],[],[],[],[],[]⟩
theorem B5 (v w:db):ae Tryz.prog 235 [.agg (gh w),.au (gh v)] [] (.bool (nz v w)):=by refine tC (fn:=Tryz.f235) (code:=(Tryz.f235.body.getD .skip)) (c:=c235) rfl rfl rfl mixed (by simp [Tryz.f235]) fun X=>?_;(conv=>whnf);refine ae.k0 (meet v w) ?_;(conv=>whnf);exact ⟨rfl,rfl⟩
def kb {α:Type} (p:α->Bool) (l:List α):Int:=
 match l.findIdx? p with
 | some i=>(i:Int)
 | none=>-1
theorem Ta {α:Type} {p:α->Bool} {l:List α} {i:Nat} (h:i<l.length) (hp:p l[i]=true) (hb:∀ j (hj:j<i),p (l[j]'(by omega))=false):kb p l=(i:Int):=by
 unfold kb;have:l.findIdx? p=some i:=by rw [List.findIdx?_eq_some_iff_getElem];exact ⟨h,hp,fun j hj=>by simp [hb j hj]⟩
 rw [this]
theorem Tb {α:Type} {p:α->Bool} {l:List α} (hb:∀ j (hj:j<l.length),p l[j]=false):kb p l = -1:=by
 unfold kb;have:l.findIdx? p=none:=by rw [List.findIdx?_eq_none_iff];intro x hx;obtain ⟨j,hj,rfl⟩:=List.getElem_of_mem hx;exact hb j hj
 rw [this]
def c261:az:=⟨[0,1,4,5,7,8,9,16],[],[],[],[],[]⟩
theorem B6 (l:List db) (hl:l.length<=aw) (f:FuncId) (bF:List AV) (p:db->Bool) (hp:∀ w∈l,ae Tryz.prog f (.agg (gh w)::bF) [] (.bool (p w))) :
  ae Tryz.prog 261 [.sl 4 none (l.map gh),.fn f bF] [] (.int .i64 (kb p l)):=by
 refine tC (fn:=Tryz.f261) (code:=(Tryz.f261.body.getD .skip)) (c:=c261) rfl rfl rfl mixed (by simp [Tryz.f261]) fun X=>?_;unfold aw at hl;(conv=>whnf);refine Hb (c:=c261) mixed [0,1,7,8] [] (fun m r h=>∃ i:Nat,r=[(0,[],.sl 4 none (l.map gh)),(1,[],.fn f bF),(7,[],.int .i64 (l.map gh).length),(8,[],.int .i64 i)]/\h=[]/\m=l.length - i/\i<=l.length/\∀ j (hj:j<i) (yi:j<l.length),p l[j]=false) ?_ ?_
 ·(conv=>whnf);exact ⟨_,0,rfl,rfl,rfl,by omega,by intro j hj;omega⟩
 rintro m r h ⟨i,rfl,rfl,rfl,hi,hg⟩;(conv=>whnf);refine ⟨fun hb=>?_,fun hb=>?_⟩
 ·have hb:(i:Int)<((l.map gh).length:Int):=of_decide_eq_true hb;rw [List.length_map] at hb;have aI:i<l.length:=(by omega);(conv=>whnf);refine ⟨i,gh l[i],⟨rfl,B4 aI⟩,?_⟩;(conv=>whnf);refine ae.k0 (hp l[i] (List.getElem_mem aI)) ?_;(conv=>whnf);refine ⟨fun hc=>?_,fun hc=>?_⟩
  ·have hc:p l[i]=true:=hc;(conv=>whnf);exact ⟨by rw [Ta aI hc (fun j hj=>hg j hj (by omega))],rfl⟩
  have hc:p l[i]=false:=hc;(conv=>whnf);refine ⟨⟨by omega,by omega⟩,?_⟩;(conv=>whnf);refine ⟨l.length - (i+1),by omega,i+1,rfl,rfl,rfl,by omega,fun j hj yi=>?_⟩;rcases Nat.lt_succ_iff_lt_or_eq.1 hj with h|rfl
  ·exact hg j h yi
  exact hc
 have hb:¬ (i:Int)<((l.map gh).length:Int):=of_decide_eq_false hb;rw [List.length_map] at hb;(conv=>whnf);exact ⟨by rw [Tb (fun j hj=>hg j (by omega) hj)],rfl⟩
theorem vP {α:Type} (p:α->Bool) (l:List α):decide (0<=kb p l)=l.any p:=by
 unfold kb;cases h:l.findIdx? p with
 | none=>
   rw [List.findIdx?_eq_none_iff] at h;have:l.any p=false:=by rw [List.any_eq_false];intro x hx;simp [h x hx]
   rw [this];rfl
 | some i=>
   rw [List.findIdx?_eq_some_iff_getElem] at h;obtain ⟨h1,h2,_⟩:=h;have:l.any p=true:=by rw [List.any_eq_true];exact ⟨l[i],List.getElem_mem h1,h2⟩
   rw [this];exact decide_eq_true (by show (0:Int)<=(i:Int);omega)
def c234:az:=⟨[0,1,4],[],[],[],[],[]⟩
theorem B7 (l:List db) (hl:l.length<=aw) (f:FuncId) (bF:List AV) (p:db->Bool) (hp:∀ w∈l,ae Tryz.prog f (.agg (gh w)::bF) [] (.bool (p w))) :
  ae Tryz.prog 234 [.sl 4 none (l.map gh),.fn f bF] [] (.bool (l.any p)):=by
 refine tC (fn:=Tryz.f234) (code:=(Tryz.f234.body.getD .skip)) (c:=c234) rfl rfl rfl mixed (by simp [Tryz.f234]) fun X=>?_;(conv=>whnf);refine ae.k0 (B6 l hl f bF p hp) ?_;(conv=>whnf);exact ⟨congrArg AV.bool (vP p l),rfl⟩
def BB (kind:Int) (y:UInt8):Bool:=small y||(!decide (kind=3)&&mg y)
def nC (kind:Int) (s:List UInt8):Bool:=decide (1<=s.length)&&decide (s.length<=8)&&s.all (BB kind)
def c233:az:=⟨[0,1,4,5,6,14,18,42],[],[],[],[],[]⟩
theorem B8 (kind:Int) (s:List UInt8) (hs:s.length<=aw):ae Tryz.prog 233 [.int .i64 kind,.str s] [] (.bool (nC kind s)):=by
 refine tC (fn:=Tryz.f233) (code:=(Tryz.f233.body.getD .skip)) (c:=c233) rfl rfl rfl mixed (by simp [Tryz.f233]) fun X=>?_;unfold aw at hs;(conv=>whnf);refine ⟨fun hc=>?_,fun hc=>?_⟩
 ·have hc:(decide ((s.length:Int)<1)||decide (8<(s.length:Int)))=true:=hc;(conv=>whnf);refine ⟨congrArg AV.bool ?_,rfl⟩;symm;simp only [Bool.or_eq_true,decide_eq_true_eq] at hc;unfold nC;simp only [Bool.and_eq_false_iff,decide_eq_false_iff_not];omega
 have hc:(decide ((s.length:Int)<1)||decide (8<(s.length:Int)))=false:=hc;simp only [Bool.or_eq_false_iff,decide_eq_false_iff_not] at hc;have oF:(decide (1<=s.length)&&decide (s.length<=8))=true:=by simp only [Bool.and_eq_true,decide_eq_true_eq];omega
 (conv=>whnf);refine Hb (c:=c233) mixed [0,1,5] [] (fun m r h=>∃ i:Nat,r=[(0,[],.int .i64 kind),(1,[],.str s),(5,[],.int .i64 i)]/\h=[]/\m=s.length - i/\i<=s.length/\∀ j y,j<i->s[j]?=some y->BB kind y=true) ?_ ?_
 ·(conv=>whnf);exact ⟨_,0,rfl,rfl,rfl,by omega,by intro j y hj;omega⟩
 rintro m r h ⟨i,rfl,rfl,rfl,hi,hg⟩;(conv=>whnf);refine ⟨fun hb=>?_,fun hb=>?_⟩
 ·have hb:(i:Int)<(s.length:Int):=of_decide_eq_true hb;have aI:i<s.length:=(by omega);have hx:=List.getElem?_eq_getElem aI;(conv=>whnf);refine ⟨i,s[i],⟨rfl,hx⟩,?_⟩
  have e:((decide ((97:Int)<=(s[i].toNat:Int))&&decide ((s[i].toNat:Int)<=122))||((!decide (kind=3)&&decide ((65:Int)<=(s[i].toNat:Int)))&&decide ((s[i].toNat:Int)<=90)))=BB kind s[i]:=by unfold BB mg small;rw [<- xL,<- xL,<- xM,<- xM,Bool.and_assoc];rfl
  (conv=>whnf);refine ⟨fun hc=>?_,fun hc=>?_⟩
  ·have hc:(!((decide ((97:Int)<=(s[i].toNat:Int))&&decide ((s[i].toNat:Int)<=122))||((!decide (kind=3)&&decide ((65:Int)<=(s[i].toNat:Int)))&&decide ((s[i].toNat:Int)<=90))))=true:=hc;rw [e] at hc;(conv=>whnf);refine ⟨congrArg AV.bool ?_,rfl⟩;symm;unfold nC;rw [Bool.and_eq_false_iff];right;rw [List.all_eq_false];exact ⟨s[i],List.getElem_mem aI,by simpa using hc⟩
  have hc:(!((decide ((97:Int)<=(s[i].toNat:Int))&&decide ((s[i].toNat:Int)<=122))||((!decide (kind=3)&&decide ((65:Int)<=(s[i].toNat:Int)))&&decide ((s[i].toNat:Int)<=90))))=false:=hc;rw [e] at hc;(conv=>whnf);refine ⟨⟨by omega,by omega⟩,?_⟩;(conv=>whnf);refine ⟨s.length - (i+1),by omega,i+1,rfl,rfl,rfl,by omega,fun j y hj hy=>?_⟩;rcases Nat.lt_succ_iff_lt_or_eq.1 hj with h|rfl
  ·exact hg j y h hy
  rw [hx] at hy;cases hy;simpa using hc
 have hb:¬ (i:Int)<(s.length:Int):=of_decide_eq_false hb;(conv=>whnf);refine ⟨congrArg AV.bool ?_,rfl⟩;symm;unfold nC;rw [oF,Bool.true_and,List.all_eq_true];intro y hy;obtain ⟨j,hj,rfl⟩:=List.getElem_of_mem hy;exact hg j _ (by omega) (List.getElem?_eq_getElem hj)
structure eL where
 code:List UInt8
 wide:Int
 high:Int
 even:Bool
 values:List db
structure Lst where
 iZ:Int
 aA:List eL
def iX (s:eL):List AV:=[.str s.code,.int .i64 s.wide,.int .i64 s.high,.bool s.even,.sl 4 none (s.values.map gh)]
def qf (l:Lst):List AV:=[.int .i64 l.iZ,.sl 5 none (l.aA.map iX)]
def mI (l:Lst) (before:List db) (v:db):Int:=
 if v.kind<1\/3<v.kind\/nC v.kind v.text=false then 12
 else if v.fr<1\/v.to<v.fr\/l.iZ<v.to then 13
 else if before.any (nz v)=true then 12
 else 0
def c181:az:=⟨[0,1,2,3,5,6,7,24,42],[],[],[],[],[]⟩
theorem B9 (l:Lst) (before:List db) (v:db) (hb:before.length<=aw) (hv:v.text.length<=aw) :
  ae Tryz.prog 181 [.agg (qf l),.sl 4 none (before.map gh),.agg (gh v)] [] (.int .i64 (mI l before v)):=by
 refine tC (fn:=Tryz.f181) (code:=(Tryz.f181.body.getD .skip)) (c:=c181) rfl rfl rfl mixed (by simp [Tryz.f181]) fun X=>?_;(conv=>whnf);refine ⟨_,fun h1=>B8 v.kind v.text hv,?_⟩;(conv=>whnf);refine ⟨fun hc=>?_,fun hc=>?_⟩
 ·have hc:(decide (v.kind<1)||decide (3<v.kind)||!(nC v.kind v.text))=true:=hc;(conv=>whnf);refine ⟨congrArg (AV.int .i64) ?_,rfl⟩;unfold mI;rw [if_pos (by simpa [or_assoc] using hc)]
 have hc:(decide (v.kind<1)||decide (3<v.kind)||!(nC v.kind v.text))=false:=hc;have bQ:¬ (v.kind<1\/3<v.kind\/nC v.kind v.text=false):=by intro hh;have:(decide (v.kind<1)||decide (3<v.kind)||!(nC v.kind v.text))=true:=(by simpa [or_assoc] using hh);rw [hc] at this;cases this
 (conv=>whnf);refine ⟨fun hd=>?_,fun hd=>?_⟩
 ·have hd:(decide (v.fr<1)||decide (v.to<v.fr)||decide (l.iZ<v.to))=true:=hd;(conv=>whnf);refine ⟨congrArg (AV.int .i64) ?_,rfl⟩;unfold mI;rw [if_neg bQ,if_pos (by simpa [or_assoc] using hd)]
 have hd:(decide (v.fr<1)||decide (v.to<v.fr)||decide (l.iZ<v.to))=false:=hd;have cZ:¬ (v.fr<1\/v.to<v.fr\/l.iZ<v.to):=by intro hh;have:(decide (v.fr<1)||decide (v.to<v.fr)||decide (l.iZ<v.to))=true:=(by simpa [or_assoc] using hh);rw [hd] at this;cases this
 (conv=>whnf);refine ae.k0 (B7 before hb 235 [.au (gh v)] (nz v) (fun w _=>B5 v w)) ?_;(conv=>whnf);refine ⟨fun he=>?_,fun he=>?_⟩
 ·have he:before.any (nz v)=true:=he;(conv=>whnf);refine ⟨congrArg (AV.int .i64) ?_,rfl⟩;unfold mI;rw [if_neg bQ,if_neg cZ,if_pos he]
 have he:before.any (nz v)=false:=he;(conv=>whnf);refine ⟨congrArg (AV.int .i64) ?_,rfl⟩;unfold mI;rw [if_neg bQ,if_neg cZ,if_neg (by rw [he];decide)]
end Go.Abs.Wall
namespace Go.Abs.Wall
open Go Go.Abs Go.Proofs
def Below {α:Type} (p:α->Bool) (l:List α) (i:Nat):Prop:=∀ j y,j<i->l[j]?=some y->p y=false
theorem Below.zero {α:Type} {p:α->Bool} {l:List α}:Below p l 0:=fun j y h=>by omega
theorem Below.succ {α:Type} {p:α->Bool} {l:List α} {i:Nat} {x:α} (h:Below p l i) (hx:l[i]?=some x) (hp:p x=false):Below p l (i+1):=by
 intro j y hj hy;rcases Nat.lt_succ_iff_lt_or_eq.1 hj with h'|rfl
 ·exact h j y h' hy
 rw [hx] at hy;cases hy;exact hp
theorem Below.at {α:Type} {p:α->Bool} {l:List α} {i:Nat} {x:α} (hb:Below p l i) (hx:l[i]?=some x) (hp:p x=true):kb p l=(i:Int):=by obtain ⟨h1,h2⟩:=List.getElem?_eq_some_iff.1 hx;exact Ta h1 (by rw [h2];exact hp) (fun j hj=>hb j _ hj (List.getElem?_eq_getElem (by omega)))
theorem Below.all {α:Type} {p:α->Bool} {l:List α} {i:Nat} (hb:Below p l i) (hi:l.length<=i):∀ y∈l,p y=false:=by intro y hy;obtain ⟨j,hj,rfl⟩:=List.getElem_of_mem hy;exact hb j _ (by omega) (List.getElem?_eq_getElem hj)
theorem Below.end {α:Type} {p:α->Bool} {l:List α} {i:Nat} (hb:Below p l i) (hi:l.length<=i):kb p l = -1:=
 Tb (fun j hj=>hb.all hi _ (List.getElem_mem hj))
def c179:az:=⟨[0,1,4,5,7,8,9,16],[],[],[],[],[]⟩
def c124:az:=⟨[0,1,4],[],[],[],[],[]⟩
theorem C0 (l:List Int) (hl:l.length<=aw) (f:FuncId) (bF:List AV) (p:Int->Bool) (hp:∀ w∈l,ae Tryz.prog f (.int .i64 w::bF) [] (.bool (p w))) :
  ae Tryz.prog 179 [.sl 1 none (ints l),.fn f bF] [] (.int .i64 (kb p l)):=by
 refine aG (F:=Tryz.f179) c179 rfl rfl rfl mixed rfl fun X=>?_;(conv=>whnf);unfold aw at hl;refine bR rfl mixed [0,1,7,8] [] (fun m r h=>∃ (i:Nat),r=[(0,[],.sl 1 none (ints l)),(1,[],.fn f bF),(7,[],.int .i64 (ints l).length),(8,[],.int .i64 i)]/\h=[]/\m=l.length - i/\i<=l.length/\Below p l i) ?_ ?_
 ·(conv=>whnf);exact ⟨_,0,rfl,rfl,rfl,by omega,.zero⟩
 rintro m r h ⟨i,rfl,rfl,rfl,hi,hg⟩;(conv=>whnf);refine ⟨fun hc=>?_,fun hc=>?_⟩<;>simp at hc
 ·obtain ⟨x,hx⟩:=aL hc;(conv=>whnf);repeat ((first|refine ix (by assumption) ?_|(refine ae.k0 (hp x (List.mem_of_getElem? hx)) ?_));conv=>whnf)
  refine ⟨fun hd=>?_,fun hd=>?_⟩
  ·(conv=>whnf);exact ⟨by rw [hg.at hx hd],rfl⟩
  (conv=>whnf);repeat (refine ⟨ah ⟨by omega,by omega⟩,?_⟩;conv=>whnf)
  exact ⟨_,by omega,i+1,rfl,rfl,rfl,by omega,hg.succ hx hd⟩
 (conv=>whnf);exact ⟨by rw [hg.end hc],rfl⟩
theorem C1 (l:List Int) (hl:l.length<=aw) (f:FuncId) (bF:List AV) (p:Int->Bool) (hp:∀ w∈l,ae Tryz.prog f (.int .i64 w::bF) [] (.bool (p w))) :
  ae Tryz.prog 124 [.sl 1 none (ints l),.fn f bF] [] (.bool (l.any p)):=by
 refine aG (F:=Tryz.f124) c124 rfl rfl rfl mixed rfl fun X=>?_;(conv=>whnf);refine ae.k0 (C0 l hl f bF p hp) ?_;(conv=>whnf);exact ⟨congrArg AV.bool (vP p l),rfl⟩
end Go.Abs.Wall
namespace Go.Abs.Wall
open Go Go.Abs Go.Proofs
def ri (l:Lst) (vs:List db):List db->Nat->Int
 | [],_=>0
 | v::t,i=>if mI l (vs.take i) v≠0 then mI l (vs.take i) v else ri l vs t (i+1)
def km (l:Lst) (s:eL):Int:=
 if s.wide<1\/12<s.wide\/s.high<1\/12<s.high then 11
 else if 12<s.values.length then 2
 else ri l s.values s.values 0
def sd (l:Lst):List eL->List (List UInt8)->Int
 | [],_=>0
 | s::t,seen=>if qe s.code=false\/s.code∈seen then 10 else if km l s≠0 then km l s else sd l t (seen++[s.code])
def lr (l:Lst):Int:=
 if 200<l.aA.length then 2
 else if l.iZ<1\/9<l.iZ then 13
 else sd l l.aA []
structure Mb (s:eL):Prop where
 code:s.code.length<=aw
 values:s.values.length<=aw
 texts:∀ v∈s.values,v.text.length<=aw
structure zO (l:Lst):Prop where
 aA:l.aA.length<=aw
 each:∀ s∈l.aA,Mb s
theorem eqStr (a b:List UInt8):jK Tryz.prog 9 (.str a) (.str b)=some (decide (a=b)):=rfl
theorem Mc:qt Tryz.prog 9=true:=by decide +kernel
def zP (seen:List (List UInt8)):List (List UInt8 × Int):=seen.map fun c=>(c,1)
theorem Tc (c:List UInt8) (seen:List (List UInt8)):(dM c (zP seen)).getD 0=if c∈seen then 1 else 0:=by
 induction seen with
 | nil=>rfl
 | cons a t ih=>
   unfold zP at ih ⊢;simp only [List.map_cons,dM,List.mem_cons];by_cases h:c=a
   ·simp [h]
   simp [h,ih]
theorem C4 (c:List UInt8) (seen:List (List UInt8)) (h:c ∉ seen):xg c 1 (zP seen)=zP (seen++[c]):=by
 induction seen with
 | nil=>rfl
 | cons a t ih=>
   simp only [List.mem_cons,not_or] at h;unfold zP at ih ⊢;simp only [List.map_cons,xg,List.cons_append];rw [if_neg h.1,ih h.2]
def c126:az:=⟨[0,1,2,3,5,6,7,8,12,20,23,24,25,26,39,62,66,68,69,70,71,83],[],[5,7],[],[(19,[0,1,2,3,4,5,6,7],[])],[]⟩
set_option maxHeartbeats 1000000 in
theorem C5 (l:Lst) (hl:zO l):ae Tryz.prog 126 [.agg (qf l)] [] (.int .i64 (lr l)):=by
 have lS:=hl.aA;unfold aw at lS;refine ae.zd (aG (F:=Tryz.f126) c126 rfl rfl rfl mixed rfl fun X=>?_);(conv=>whnf);refine ⟨fun hc=>?_,fun hc=>?_⟩<;>simp at hc
 ·(conv=>whnf);rw [lr,if_pos (by omega)]
 (conv=>whnf);refine ⟨fun hd=>?_,fun hd=>?_⟩<;>simp at hd
 ·(conv=>whnf);rw [lr,if_neg (by omega),if_pos (by omega)]
 have qK:lr l=sd l l.aA []:=(by rw [lr,if_neg (by omega),if_neg (by omega)]);(conv=>whnf);intro bm;(conv=>whnf);refine bR rfl mixed [1,3,23,24,25] [] (fun m r h=>∃ (i:Nat) (seen:List (List UInt8)),r=[(1,[],.au (qf l)),(3,[],.omap bm),(23,[],.sl 5 none (l.aA.map iX)),(24,[],.int .i64 (l.aA.map iX).length),(25,[],.int .i64 i)]/\h=[(bm,.map (pN AV.str (AV.int .i64) (zP seen)))]/\m=l.aA.length - i/\i<=l.aA.length/\lr l=sd l (l.aA.drop i) seen) ?_ ?_
 ·(conv=>whnf);exact ⟨_,0,[],rfl,rfl,rfl,by omega,qK⟩
 rintro m r h ⟨i,seen,rfl,rfl,rfl,hi,hr⟩;(conv=>whnf);refine ⟨fun he=>?_,fun he=>?_⟩<;>simp at he
 ·obtain ⟨s,hx⟩:=aL he;have hf:=hl.each s (List.mem_of_getElem? hx);rw [drop_cons hx,sd] at hr;(conv=>whnf);repeat ((first|refine ix (by assumption) ?_|refine ⟨_,_,bo.here _,⟨Nat.le_of_ble_eq_true rfl,rfl⟩,?_⟩|intro (nb:Nat));conv=>whnf)
  refine ae.k0 (validCode s.code hf.code) ?_;(conv=>whnf);refine RB (List.mem_singleton.2 rfl) eqStr Mc ?_;(conv=>whnf);rw [Tc];refine ⟨fun bG=>?_,fun bG=>?_⟩
  ·have bG:qe s.code=false\/s.code∈seen:=by
    by_cases hm:s.code∈seen
    ·exact .inr hm
    simp [hm] at bG;exact .inl bG
   (conv=>whnf);rw [hr,if_pos bG]
  have bG:¬ (qe s.code=false\/s.code∈seen):=by
   by_cases hm:s.code∈seen
   ·simp [hm] at bG
   simp [hm] at bG;simp [hm,bG]
  rw [if_neg bG] at hr;(conv=>whnf);refine RB (List.mem_singleton.2 rfl) eqStr Mc ?_;rw [Tc];have Eg:s.code ∉ seen:=fun h=>bG (.inr h);rw [if_neg Eg];(conv=>whnf);repeat (refine ⟨ah ⟨by omega,by omega⟩,?_⟩;conv=>whnf)
  refine Qm eqStr Mc (cO.here _) ?_;rw [show (0:Int)+1=1 from rfl,C4 _ _ Eg];(conv=>whnf);refine ⟨fun hz=>?_,fun hz=>?_⟩<;>simp at hz
  ·have zQ:km l s=11:=(by rw [km,if_pos (by omega)]);rw [zQ,if_pos (by decide)] at hr;(conv=>whnf);rw [hr]
  (conv=>whnf);refine ⟨fun hy=>?_,fun hy=>?_⟩<;>simp at hy
  ·have zQ:km l s=2:=(by rw [km,if_neg (by omega),if_pos (by omega)]);rw [zQ,if_pos (by decide)] at hr;(conv=>whnf);rw [hr]
  have zQ:km l s=ri l s.values s.values 0:=(by rw [km,if_neg (by omega),if_neg (by omega)]);have yj:=hf.values;unfold aw at yj;(conv=>whnf);refine bR rfl mixed [1,3,5,23,24,25,68,69,70] [] (fun m r h=>∃ (j:Nat),r=[(1,[],.au (qf l)),(3,[],.omap bm),(5,[],.au (iX s)),(23,[],.sl 5 none (l.aA.map iX)),(24,[],.int .i64 (l.aA.map iX).length),(25,[],.int .i64 i),(68,[],.sl 4 none (s.values.map gh)),(69,[],.int .i64 (s.values.map gh).length),(70,[],.int .i64 j)]/\h=[(bm,.map (pN AV.str (AV.int .i64) (zP (seen++[s.code]))))]/\m=s.values.length - j/\j<=s.values.length/\km l s=ri l s.values (s.values.drop j) j) ?_ ?_
  ·(conv=>whnf);exact ⟨_,0,rfl,rfl,rfl,by omega,zQ⟩
  rintro m r h ⟨j,rfl,rfl,rfl,hj,hv⟩;(conv=>whnf);refine ⟨fun ha=>?_,fun ha=>?_⟩<;>simp at ha
  ·obtain ⟨v,rP⟩:=aL ha;have Md:=hf.texts v (List.mem_of_getElem? rP);rw [drop_cons rP,ri] at hv;(conv=>whnf);repeat ((first|refine ix (by assumption) ?_|refine ⟨_,_,bo.here _,⟨Nat.le_of_ble_eq_true rfl,rfl⟩,?_⟩|refine And.intro (by show aP (aN Tryz.f126 _) _=true;decide +kernel) ?_|intro (nb:Nat));conv=>whnf)
   refine ⟨⟨by omega,by omega,by simp;omega⟩,?_⟩;have hq:=B9 l (s.values.take j) v (by simp [aw];omega) Md;rw [List.map_take] at hq;(conv=>whnf);refine ba hq ?_;(conv=>whnf);refine ⟨fun hu=>?_,fun hu=>?_⟩<;>simp at hu
   ·rw [if_pos hu] at hv;rw [hv,if_pos hu] at hr;(conv=>whnf);rw [hr]
   rw [if_neg (by simpa using hu)] at hv;(conv=>whnf);repeat (refine ⟨ah ⟨by omega,by omega⟩,?_⟩;conv=>whnf)
   exact ⟨_,by omega,j+1,rfl,rfl,rfl,by omega,hv⟩
  rw [drop_nil ha,ri] at hv;rw [hv,if_neg (by decide)] at hr;(conv=>whnf);repeat (refine ⟨ah ⟨by omega,by omega⟩,?_⟩;conv=>whnf)
  exact ⟨_,by omega,i+1,_,rfl,rfl,rfl,by omega,hr⟩
 rw [drop_nil he] at hr;(conv=>whnf);rw [hr];rfl
end Go.Abs.Wall
namespace Go.Abs.Wall
open Go Go.Abs Go.Proofs
def c168:az:=⟨[0,1,2,6],[],[],[],[],[]⟩
def c110:az:=⟨[0,2,3,17,21,42],[],[],[],[],[]⟩
def c172:az:=⟨[0,2,3,7,14],[],[],[],[],[]⟩
def c171:az:=⟨[0,2,3,7,21],[],[],[],[],[]⟩
def c169:az:=⟨[0,1,4,12,14],[],[],[],[],[]⟩
theorem BC (c lo hi:Int):ae Tryz.prog 168 [.int .u8 c,.int .u8 lo,.int .u8 hi] [] (.bool (decide (lo<=c)&&decide (c<=hi))):=by refine aG (F:=Tryz.f168) c168 rfl rfl rfl mixed rfl fun X=>?_;(conv=>whnf);exact ⟨rfl,rfl⟩
theorem Me (y:UInt8) (a b:Nat):(decide ((a:Int)<=(y.toNat:Int))&&decide ((y.toNat:Int)<=(b:Int)))=(decide (a<=y.toNat)&&decide (y.toNat<=b)):=by rw [xL,xM]
theorem Mf (y:UInt8):(decide ((97:Int)<=(y.toNat:Int))&&decide ((y.toNat:Int)<=122))=small y:=Me y 97 122
theorem Mg (y:UInt8):(decide ((65:Int)<=(y.toNat:Int))&&decide ((y.toNat:Int)<=90))=mg y:=Me y 65 90
theorem C6 (y:UInt8):(decide ((48:Int)<=(y.toNat:Int))&&decide ((y.toNat:Int)<=57))=digit y:=Me y 48 57
theorem Td (s:List UInt8) (hs:s.length<=aw):ae Tryz.prog 172 [.str s] [] (.bool (s.all small)):=by
 refine aG (F:=Tryz.f172) c172 rfl rfl rfl mixed rfl fun X=>?_;(conv=>whnf);unfold aw at hs;refine bR rfl mixed [0,3] [] (fun m r h=>∃ (i:Nat),r=[(0,[],.str s),(3,[],.int .i64 i)]/\h=[]/\m=s.length - i/\i<=s.length/\s.all small=(s.drop i).all small) ?_ ?_
 ·(conv=>whnf);exact ⟨_,0,rfl,rfl,rfl,by omega,rfl⟩
 rintro m r h ⟨i,rfl,rfl,rfl,hi,hr⟩;(conv=>whnf);refine ⟨fun hc=>?_,fun hc=>?_⟩<;>simp at hc
 ·obtain ⟨y,hx⟩:=aL hc;rw [drop_cons hx,List.all_cons] at hr;(conv=>whnf);repeat ((first|refine sx (by assumption) ?_|refine ae.k0 (BC _ _ _) ?_);conv=>whnf)
  rw [Mf];refine ⟨fun hd=>?_,fun hd=>?_⟩<;>simp at hd
  ·(conv=>whnf);exact ⟨by rw [hr,hd];rfl,rfl⟩
  rw [hd,Bool.true_and] at hr;(conv=>whnf);repeat (refine ⟨ah ⟨by omega,by omega⟩,?_⟩;conv=>whnf)
  exact ⟨_,by omega,i+1,rfl,rfl,rfl,by omega,hr⟩
 rw [drop_nil hc] at hr;(conv=>whnf);exact ⟨by rw [hr];rfl,rfl⟩
theorem Te (s:List UInt8) (hs:s.length<=aw):ae Tryz.prog 171 [.str s] [] (.bool (s.all fun y=>small y||mg y)):=by
 refine aG (F:=Tryz.f171) c171 rfl rfl rfl mixed rfl fun X=>?_;(conv=>whnf);unfold aw at hs;refine bR rfl mixed [0,3] [] (fun m r h=>∃ (i:Nat),r=[(0,[],.str s),(3,[],.int .i64 i)]/\h=[]/\m=s.length - i/\i<=s.length/\(s.all fun y=>small y||mg y)=(s.drop i).all fun y=>small y||mg y) ?_ ?_
 ·(conv=>whnf);exact ⟨_,0,rfl,rfl,rfl,by omega,rfl⟩
 rintro m r h ⟨i,rfl,rfl,rfl,hi,hr⟩;(conv=>whnf);refine ⟨fun hc=>?_,fun hc=>?_⟩<;>simp at hc
 ·obtain ⟨y,hx⟩:=aL hc;rw [drop_cons hx,List.all_cons] at hr;(conv=>whnf);repeat ((first|refine sx (by assumption) ?_|refine ae.k0 (BC _ _ _) ?_|refine ba (BC _ _ _) ?_);conv=>whnf)
  rw [Mf,Mg];refine ⟨fun hd=>?_,fun hd=>?_⟩
  ·(conv=>whnf);exact ⟨by rw [hr];simp at hd;simp [hd],rfl⟩
  rw [show (small y||mg y)=true by simp at hd;cases h:small y<;>simp [h] at hd ⊢;exact hd,Bool.true_and] at hr
  (conv=>whnf);repeat (refine ⟨ah ⟨by omega,by omega⟩,?_⟩;conv=>whnf)
  exact ⟨_,by omega,i+1,rfl,rfl,rfl,by omega,hr⟩
 rw [drop_nil hc] at hr;(conv=>whnf);exact ⟨by rw [hr];rfl,rfl⟩
theorem C7 (s:List UInt8) (hs:s.length<=aw):ae Tryz.prog 110 [.str s] [] (.bool (qe s)):=by
 refine aG (F:=Tryz.f110) c110 rfl rfl rfl mixed rfl fun X=>?_;(conv=>whnf);unfold aw at hs;repeat ((first|(refine Zg ?_ ?_;(conv=>whnf);(intro h;simp at h;show 0<=0/\0<_;omega))|refine ba (BC _ _ _) ?_);conv=>whnf)
 rw [Mg];refine ⟨fun hc=>?_,fun hc=>?_⟩
 ·(conv=>whnf);refine ⟨congrArg AV.bool ?_,rfl⟩;symm;simp only [Bool.or_eq_true,decide_eq_true_eq,Bool.not_eq_true'] at hc;unfold qe;simp only [Bool.and_eq_false_iff,decide_eq_false_iff_not];rcases hc with (hc|hc)|hc
  ·exact .inl (.inl (.inl (by omega)))
  ·exact .inl (.inl (.inr (by omega)))
  exact .inl (.inr hc)
 have oF:(decide (1<=s.length)&&decide (s.length<=8)&&mg (s[0]?.getD 0))=true:=by simp only [Bool.or_eq_false_iff,decide_eq_false_iff_not,Bool.not_eq_false'] at hc;simp only [Bool.and_eq_true,decide_eq_true_eq];exact ⟨by omega,hc.2⟩
 have tY:qe s=s.all uN:=by unfold qe;rw [oF];rfl
 (conv=>whnf);refine bR rfl mixed [0,3] [] (fun m r h=>∃ (i:Nat),r=[(0,[],.str s),(3,[],.int .i64 i)]/\h=[]/\m=s.length - i/\i<=s.length/\qe s=(s.drop i).all uN) ?_ ?_
 ·(conv=>whnf);exact ⟨_,0,rfl,rfl,rfl,by omega,tY⟩
 rintro m r h ⟨i,rfl,rfl,rfl,hi,hr⟩;(conv=>whnf);refine ⟨fun hc=>?_,fun hc=>?_⟩<;>simp at hc
 ·obtain ⟨y,hx⟩:=aL hc;rw [drop_cons hx,List.all_cons] at hr;(conv=>whnf);repeat ((first|refine sx (by assumption) ?_|refine ae.k0 (BC _ _ _) ?_|refine ba (BC _ _ _) ?_);conv=>whnf)
  rw [Mf,Mg,C6];refine ⟨fun hd=>?_,fun hd=>?_⟩
  ·(conv=>whnf);refine ⟨congrArg AV.bool ?_,rfl⟩;rw [hr,show uN y=false by unfold uN;revert hd;cases small y<;>cases mg y<;>cases digit y<;>decide];rfl
  rw [show uN y=true by unfold uN;revert hd;cases small y<;>cases mg y<;>cases digit y<;>decide,Bool.true_and] at hr
  (conv=>whnf);repeat (refine ⟨ah ⟨by omega,by omega⟩,?_⟩;conv=>whnf)
  exact ⟨_,by omega,i+1,rfl,rfl,rfl,by omega,hr⟩
 rw [drop_nil hc] at hr;(conv=>whnf);exact ⟨by rw [hr];rfl,rfl⟩
theorem C8 (kind:Int) (s:List UInt8) (hs:s.length<=aw):ae Tryz.prog 169 [.int .i64 kind,.str s] [] (.bool (nC kind s)):=by
 refine aG (F:=Tryz.f169) c169 rfl rfl rfl mixed rfl fun X=>?_;(conv=>whnf);refine ⟨fun hc=>?_,fun hc=>?_⟩<;>simp at hc
 ·(conv=>whnf);refine ⟨congrArg AV.bool ?_,rfl⟩;unfold nC;symm;simp only [Bool.and_eq_false_iff,decide_eq_false_iff_not];omega
 have oF:(decide (1<=s.length)&&decide (s.length<=8))=true:=by simp only [Bool.and_eq_true,decide_eq_true_eq];omega
 (conv=>whnf);refine ⟨fun hk=>?_,fun hk=>?_⟩<;>simp at hk
 ·(conv=>whnf);repeat (refine ae.k0 (Td s hs) ?_;conv=>whnf)
  refine ⟨congrArg AV.bool ?_,rfl⟩;unfold nC;rw [oF,Bool.true_and];congr 1;funext y;unfold BB;simp [hk]
 (conv=>whnf);repeat (refine ae.k0 (Te s hs) ?_;conv=>whnf)
 refine ⟨congrArg AV.bool ?_,rfl⟩;unfold nC;rw [oF,Bool.true_and];congr 1;funext y;unfold BB;simp [hk]
end Go.Abs.Wall
namespace Go.Abs.Wall
open Go Go.Abs Go.Proofs
def c170:az:=⟨[0,1,2,3,4],[],[],[],[],[]⟩
def c111:az:=⟨[0,1,2,4,5,10,20],[],[],[],[],[]⟩
def c112:az:=⟨[0,1,2,4,5,6,7,25,29,34,57,73,76,85],[],[6],[],[(16,[0,1,2,3,4,5,6],[])],[]⟩
def c60:az:=⟨[0,1,2,3,4,8,16,21,43,53],[],[],[],[(8,[0,1,2,3,4,5,6,7,8,9,10,11,12,13,14,15,16,17,18,19],[]),(10,[0,1,2,3,4,5,6,7,8],[])],[]⟩
theorem C9 (a b:db):ae Tryz.prog 170 [.agg (gh a),.agg (gh b)] [] (.bool (nz b a)):=by
 refine aG (F:=Tryz.f170) c170 rfl rfl rfl mixed rfl fun X=>?_;(conv=>whnf);skip;refine ⟨congrArg AV.bool ?_,rfl⟩;unfold nz;rw [Bool.eq_iff_iff];simp only [Bool.and_eq_true,decide_eq_true_eq];constructor
 ·rintro ⟨⟨⟨h1,h2⟩,h3⟩,h4⟩;exact ⟨⟨⟨h1.symm,h2.symm,trivial⟩,h4⟩,h3⟩
 rintro ⟨⟨⟨h1,h2,_⟩,h4⟩,h3⟩;exact ⟨⟨⟨h1.symm,h2.symm⟩,h3⟩,h4⟩
theorem D0 (l:Lst) (c:List UInt8) (hl:zO l):ae Tryz.prog 111 [.agg (qf l),.str c] [] (.int .i64 (kb (fun s:eL=>decide (s.code=c)) l.aA)):=by
 refine aG (F:=Tryz.f111) c111 rfl rfl rfl mixed rfl fun X=>?_;(conv=>whnf);have lS:=hl.aA;unfold aw at lS;refine bR rfl mixed [1,2,5] [] (fun m r h=>∃ (i:Nat),r=[(1,[],.str c),(2,[],.au (qf l)),(5,[],.int .i64 i)]/\h=[]/\m=l.aA.length - i/\i<=l.aA.length/\Below (fun s:eL=>decide (s.code=c)) l.aA i) ?_ ?_
 ·(conv=>whnf);exact ⟨_,0,rfl,rfl,rfl,by omega,.zero⟩
 rintro m r h ⟨i,rfl,rfl,rfl,hi,hg⟩;(conv=>whnf);refine ⟨fun hc=>?_,fun hc=>?_⟩<;>simp at hc
 ·obtain ⟨x,hx⟩:=aL hc;(conv=>whnf);repeat (refine ix (by assumption) ?_;conv=>whnf)
  refine ⟨fun hd=>?_,fun hd=>?_⟩
  ·(conv=>whnf);exact ⟨by rw [hg.at hx hd],rfl⟩
  (conv=>whnf);repeat (refine ⟨ah ⟨by omega,by omega⟩,?_⟩;conv=>whnf)
  exact ⟨_,by omega,i+1,rfl,rfl,rfl,by omega,hg.succ hx hd⟩
 (conv=>whnf);exact ⟨by rw [hg.end hc],rfl⟩
theorem D1 (l:Lst) (s:eL) (hf:Mb s):ae Tryz.prog 112 [.agg (iX s),.int .i64 l.iZ] [] (.int .i64 (km l s)):=by
 refine aG (F:=Tryz.f112) c112 rfl rfl rfl mixed rfl fun X=>?_;(conv=>whnf);have yj:=hf.values;unfold aw at yj;refine ⟨fun hz=>?_,fun hz=>?_⟩<;>simp at hz
 ·(conv=>whnf);exact ⟨by rw [km,if_pos (by omega)],rfl⟩
 (conv=>whnf);refine ⟨fun hy=>?_,fun hy=>?_⟩<;>simp at hy
 ·(conv=>whnf);exact ⟨by rw [km,if_neg (by omega),if_pos (by omega)],rfl⟩
 have zQ:km l s=ri l s.values s.values 0:=(by rw [km,if_neg (by omega),if_neg (by omega)]);(conv=>whnf);refine bR rfl mixed [1,2,5] [] (fun m r h=>∃ (i:Nat),r=[(1,[],.int .i64 l.iZ),(2,[],.au (iX s)),(5,[],.int .i64 i)]/\h=[]/\m=s.values.length - i/\i<=s.values.length/\km l s=ri l s.values (s.values.drop i) i) ?_ ?_
 ·(conv=>whnf);exact ⟨_,0,rfl,rfl,rfl,by omega,zQ⟩
 rintro m r h ⟨i,rfl,rfl,rfl,hi,hr⟩;(conv=>whnf);refine ⟨fun hc=>?_,fun hc=>?_⟩<;>simp at hc
 ·obtain ⟨v,hx⟩:=aL hc;have Md:=hf.texts v (List.mem_of_getElem? hx);rw [drop_cons hx,ri] at hr;(conv=>whnf);repeat ((first|refine ix (by assumption) ?_|refine ba (C8 v.kind v.text Md) ?_|refine ⟨_,_,bo.here _,⟨Nat.le_of_ble_eq_true rfl,rfl⟩,?_⟩|intro (nb:Nat));conv=>whnf)
  refine ⟨fun hd=>?_,fun hd=>?_⟩
  ·have he:mI l (s.values.take i) v=12:=by unfold mI;rw [if_pos (by simpa [or_assoc] using hd)]
   rw [he,if_pos (by decide)] at hr;(conv=>whnf);exact ⟨by rw [hr],rfl⟩
  have cZ:¬ (v.kind<1\/3<v.kind\/nC v.kind v.text=false):=by intro hh;have:(decide (v.kind<1)||decide (3<v.kind)||!(nC v.kind v.text))=true:=(by simpa [or_assoc] using hh);rw [hd] at this;cases this
  (conv=>whnf);skip;refine ⟨fun he=>?_,fun he=>?_⟩
  ·have he:mI l (s.values.take i) v=13:=by unfold mI;rw [if_neg cZ,if_pos (by simpa [or_assoc] using he)]
   rw [he,if_pos (by decide)] at hr;(conv=>whnf);exact ⟨by rw [hr],rfl⟩
  have BZ:¬ (v.fr<1\/v.to<v.fr\/l.iZ<v.to):=by intro hh;have:(decide (v.fr<1)||decide (v.to<v.fr)||decide (l.iZ<v.to))=true:=(by simpa [or_assoc] using hh);rw [he] at this;cases this
  have qG:mI l (s.values.take i) v=if (s.values.take i).any (nz v)=true then 12 else 0:=by unfold mI;rw [if_neg cZ,if_neg BZ]
  (conv=>whnf);refine bR rfl mixed [1,2,5,6,7] [] (fun m r h=>∃ (k:Nat),r=[(1,[],.int .i64 l.iZ),(2,[],.au (iX s)),(5,[],.int .i64 i),(6,[],.au (gh v)),(7,[],.int .i64 k)]/\h=[]/\m=i - k/\k<=i/\Below (nz v) (s.values.take i) k) ?_ ?_
  ·(conv=>whnf);exact ⟨_,0,rfl,rfl,rfl,by omega,.zero⟩
  rintro m r h ⟨k,rfl,rfl,rfl,hk,hg⟩;(conv=>whnf);refine ⟨fun ha=>?_,fun ha=>?_⟩<;>simp at ha
  ·obtain ⟨w,D2⟩:=aL (show k<s.values.length by omega);have Tf:(s.values.take i)[k]?=some w:=by rw [List.getElem?_take_of_lt ha];exact D2
   (conv=>whnf);repeat ((first|refine ix (by assumption) ?_|refine ba (C9 w v) ?_|refine And.intro (by show aP (aN Tryz.f112 _) _=true;decide +kernel) ?_);conv=>whnf)
   refine ⟨fun hm=>?_,fun hm=>?_⟩
   ·have:(s.values.take i).any (nz v)=true:=List.any_eq_true.2 ⟨w,List.mem_of_getElem? Tf,hm⟩;rw [qG,if_pos this,if_pos (by decide)] at hr;(conv=>whnf);exact ⟨by rw [hr],rfl⟩
   (conv=>whnf);repeat (refine ⟨ah ⟨by omega,by omega⟩,?_⟩;conv=>whnf)
   exact ⟨_,by omega,k+1,rfl,rfl,rfl,by omega,hg.succ Tf hm⟩
  have:¬ (s.values.take i).any (nz v)=true:=by intro h;obtain ⟨y,hy,hm⟩:=List.any_eq_true.1 h;rw [hg.all (by simp;omega) y hy] at hm;cases hm
  rw [qG,if_neg this,if_neg (by decide)] at hr;(conv=>whnf);repeat (refine ⟨ah ⟨by omega,by omega⟩,?_⟩;conv=>whnf)
  exact ⟨_,by omega,i+1,rfl,rfl,rfl,by omega,hr⟩
 rw [drop_nil hc] at hr;(conv=>whnf);exact ⟨by rw [hr];rfl,rfl⟩
theorem D3 {l:List eL} {i:Nat} {s:eL} (hx:l[i]?=some s):kb (fun x:eL=>decide (x.code=s.code)) l<(i:Int)↔s.code∈(l.take i).map eL.code:=by
 unfold kb;cases h:l.findIdx? (fun x:eL=>decide (x.code=s.code)) with
 | none=>
   rw [List.findIdx?_eq_none_iff] at h;have:=h s (List.mem_of_getElem? hx);simp at this
 | some j=>
   rw [List.findIdx?_eq_some_iff_getElem] at h;obtain ⟨h1,h2,h3⟩:=h;simp only [decide_eq_true_eq] at h2 h3;constructor
   ·intro aI;have aI:j<i:=(by simpa using aI);rw [<- h2];refine List.mem_map.2 ⟨l[j],?_,rfl⟩;exact List.mem_iff_getElem?.2 ⟨j,by rw [List.getElem?_take_of_lt aI];exact List.getElem?_eq_getElem h1⟩
   intro hm;obtain ⟨y,hy,hc⟩:=List.mem_map.1 hm;obtain ⟨k,hk⟩:=List.mem_iff_getElem?.1 hy;have zR:k<i:=by have:=(List.getElem?_eq_some_iff.1 hk).1;simp at this;omega
   rw [List.getElem?_take_of_lt zR] at hk;obtain ⟨cX,bw⟩:=List.getElem?_eq_some_iff.1 hk;show (j:Int)<(i:Int);by_cases CU:k<j
   ·have:=h3 k CU;rw [bw] at this;exact absurd hc this
   omega
theorem Tg (l:Lst) (hl:zO l):ae Tryz.prog 60 [.agg (qf l)] [] (.int .i64 (lr l)):=by
 have lS:=hl.aA;unfold aw at lS;refine aG (F:=Tryz.f60) c60 rfl rfl rfl mixed rfl fun X=>?_;(conv=>whnf);refine ⟨fun hc=>?_,fun hc=>?_⟩<;>simp at hc
 ·(conv=>whnf);exact ⟨by rw [lr,if_pos (by omega)],rfl⟩
 (conv=>whnf);refine ⟨fun hd=>?_,fun hd=>?_⟩<;>simp at hd
 ·(conv=>whnf);exact ⟨by rw [lr,if_neg (by omega),if_pos (by omega)],rfl⟩
 have qK:lr l=sd l l.aA []:=(by rw [lr,if_neg (by omega),if_neg (by omega)]);(conv=>whnf);refine bR rfl mixed [1,3] [] (fun m r h=>∃ (i:Nat),r=[(1,[],.au (qf l)),(3,[],.int .i64 i)]/\h=[]/\m=l.aA.length - i/\i<=l.aA.length/\lr l=sd l (l.aA.drop i) ((l.aA.take i).map eL.code)) ?_ ?_
 ·(conv=>whnf);exact ⟨_,0,rfl,rfl,rfl,by omega,qK⟩
 rintro m r h ⟨i,rfl,rfl,rfl,hi,hr⟩;(conv=>whnf);refine ⟨fun he=>?_,fun he=>?_⟩<;>simp at he
 ·obtain ⟨s,hx⟩:=aL he;have hf:=hl.each s (List.mem_of_getElem? hx);have vH:(l.aA.take i).map eL.code++[s.code]=(l.aA.take (i+1)).map eL.code:=by rw [List.take_add_one,hx];simp
  rw [drop_cons hx,sd,vH] at hr;simp only [<- D3 hx] at hr;(conv=>whnf);repeat ((first|refine ix (by assumption) ?_|refine ba (C7 s.code hf.code) ?_|refine ba (D0 l s.code hl) ?_|refine And.intro (by show aP (aN Tryz.f60 _) _=true;decide +kernel) ?_);conv=>whnf)
  refine ⟨fun bG=>?_,fun bG=>?_⟩
  ·have bG:qe s.code=false\/kb (fun x:eL=>decide (x.code=s.code)) l.aA<(i:Int):=by
    simpa [or_comm] using bG
   (conv=>whnf);exact ⟨by rw [hr,if_pos bG],rfl⟩
  have bG:¬ (qe s.code=false\/kb (fun x:eL=>decide (x.code=s.code)) l.aA<(i:Int)):=by simp at bG ⊢;exact ⟨bG.1,bG.2⟩
  rw [if_neg bG] at hr;(conv=>whnf);repeat ((first|refine ix (by assumption) ?_|refine ba (D1 l s hf) ?_|refine And.intro (by show aP (aN Tryz.f60 _) _=true;decide +kernel) ?_);conv=>whnf)
  refine ⟨fun hu=>?_,fun hu=>?_⟩<;>simp at hu
  ·rw [if_pos hu] at hr;(conv=>whnf);exact ⟨by rw [hr],rfl⟩
  rw [if_neg (by simpa using hu)] at hr;(conv=>whnf);repeat (refine ⟨ah ⟨by omega,by omega⟩,?_⟩;conv=>whnf)
  exact ⟨_,by omega,i+1,rfl,rfl,rfl,by omega,hr⟩
 rw [drop_nil he] at hr;(conv=>whnf);exact ⟨by rw [hr];rfl,rfl⟩
end Go.Abs.Wall
