/- What is proved: small laws for the walks of this seat, and contracts of its functions. No condition but those each theorem names. -/
import Derived.Test.YtbmcnieifibckaaGreatN3
import Derived.Shelf.SlSortCmp.WholeK
import Derived.Test.YtbmcnieifibckaaGreatProg
import Derived.Shelf.SlSortCmp.InsertionK
import Derived.Test.YtbmcnieifibckaaGreatRows
import Derived.WalkKit
import Derived.ProofKit
import Derived.OpenShut
import Derived.JoinedCond
import Derived.ReadAgain
import Derived.ChangeStays
/-
 The abstract fB,part Y: drawn regions in Yr R7 R8 NT made,in R9 order.
-/
set_option linter.unusedVariables false
set_option linter.unusedSimpArgs false
namespace Go.Abs
open Go
variable {P:Program} {n:Nat} {X:Nat->Prop} {all:List Oper} {cl ord:List Nat} {r:aC}
def QE:Op->Bool
 | .call cl=>(match cl.callee with
   | .builtin .append=>(match cl.args.toList with
     | .const (.slice none 0 0)::_=>true
     | _=>false)
   | _=>false)
 | _=>false
def makes (op:Op):Bool:=rE op||QE op
theorem Ko {r:aC} {h:ab} {K:AV->ab->Prop} {op:Op} (ha:makes op=true) (hq:cz P r h K op):cz P r h (fun v h'=>K v h'/\∃ x,h'=x::h) op:=by
 unfold makes at ha;rw [Bool.or_eq_true] at ha;rcases ha with ha|ha
 ·exact Jv ha hq
 unfold QE at ha;split at ha<;>try contradiction
 rename_i cl;split at ha<;>try contradiction
 rename_i cM;split at ha<;>try contradiction
 rename_i xs jv;simp only [cz,cM] at hq ⊢;split at hq<;>try contradiction
 split at hq<;>try contradiction
 split at hq<;>try contradiction
 split at hq<;>try contradiction
 split at hq<;>try contradiction
 split at hq<;>try contradiction
 split at hq
 ·split at hq<;>try contradiction
  obtain ⟨eo,ys,h1,h2,h3,h4⟩:=hq;exact ⟨eo,ys,h1,h2,h3,fun q=>⟨h4 q,_,rfl⟩⟩
 ·rename_i de;rw [jv] at de;unfold bU at de;simp only [aM,nV] at de;split at de<;>try contradiction
  cases de
 ·split at hq<;>try contradiction
  exact ⟨hq.1,fun q=>⟨hq.2 q,_,rfl⟩⟩
 ·rename_i de;rw [jv] at de;unfold bU at de;simp only [aM,nV] at de;split at de<;>try contradiction
  cases de
 ·rename_i de;rw [jv] at de;unfold bU at de;simp only [aM,nV] at de;split at de<;>try contradiction
  cases de
 ·rename_i de;rw [jv] at de;unfold bU at de;simp only [aM,nV] at de;split at de<;>try contradiction
  cases de
 ·rename_i de;rw [jv] at de;unfold bU at de;simp only [aM,nV] at de;split at de<;>try contradiction
  cases de
 ·exact hq.elim
 split at hq<;>try contradiction
 split at hq<;>try contradiction
 split at hq<;>try contradiction
 split at hq<;>try contradiction
 split at hq<;>try contradiction
 split at hq<;>try contradiction
 rename_i de;rw [jv] at de;unfold bU at de;simp only [aM,nV] at de;split at de<;>try contradiction
 cases de
theorem Ys {r:aC} {h:ab} {K:AV->ab->Prop} {op:Op} {own jW:List Nat} {d:Option Nat} (ha:makes op=true) (hq:gF P own jW d r h K op):gF P own jW d r h (fun v h'=>K v h'/\∃ x,h'=x::h) op:=by
 unfold gF at hq ⊢;split at hq
 ·split at hq
  ·skip;unfold ue at hq ⊢;revert hq;repeat' split
   all_goals first|exact fun hh=>hh.elim|exact fun hh=>⟨hh.1,fun b=>⟨hh.2 b,_,rfl⟩⟩
  skip;exact Ko ha hq
 ·split at hq
  ·skip;unfold uf at hq ⊢;revert hq;repeat' split
   all_goals first|exact fun hh=>hh.elim|exact fun hh b=>⟨hh b,_,rfl⟩
  skip;exact Ko ha hq
 exact Ko ha hq
theorem gr.swap {kn ct:List Nat} {k i:Nat} (hs:gr all cl (kn++k::i::ct)) (Yt:Nat.testBit (kW cl i) k=false):gr all cl (kn++i::k::ct):=by
 have oR:∃ oj,all[i]?=some oj:=by obtain ⟨o2,cr,_⟩:=hs.p4 (kn++[k]) i ct (by simp);exact ⟨o2,cr⟩
 obtain ⟨oj,FH⟩:=oR;obtain ⟨o,ho,rQ⟩:=hs.p4 kn k (i::ct) rfl
 have QF:∀ e∈oj.after.toList,Region.binds .any e=true->e.on∈kn:=by
  obtain ⟨o2,cr,hh⟩:=hs.p4 (kn++[k]) i ct (by simp);rw [FH] at cr;cases cr
  intro e he hb;have:=hh e he hb;simp only [List.mem_append,List.mem_singleton] at this;rcases this with h|h
  ·exact h
  exfalso;have:Cl cl i k:=by unfold Cl;rw [hs.e2 i _ FH,Jz];exact ⟨e,he,hb,.inl h⟩
  unfold Cl at this;rw [Yt] at this;cases this
 refine ⟨hs.e1,hs.e2,?_,?_,?_,hs.n1,hs.d1⟩
 ·intro x hx;have:=hs.p2 x hx;simp only [List.mem_append,List.mem_cons] at this ⊢;rcases this with h|h|h|h
  ·exact .inl h
  ·exact .inr (.inr (.inl h))
  ·exact .inr (.inl h)
  exact .inr (.inr (.inr h))
 ·have:=hs.p3;simp only [List.nodup_append,List.nodup_cons,List.mem_cons] at this ⊢;obtain ⟨u1,⟨u2,u3,u4⟩,u5⟩:=this;refine ⟨u1,⟨?_,?_,u4⟩,?_⟩
  ·rintro (e|e)
   ·exact u2 (.inl e.symm)
   exact u3 e
  ·exact fun e=>u2 (.inr e)
  intro x hx y hy;rcases hy with e|e|e
  ·exact u5 x hx y (.inr (.inl e))
  ·exact u5 x hx y (.inl e)
  exact u5 x hx y (.inr (.inr e))
 intro pre x post Yu;rcases List.append_eq_append_iff.1 Yu with ⟨a',e1,e2⟩|⟨c',e1,e2⟩
 ·cases a' with
  | nil=>
    cases e2
    exact ⟨oj,FH,fun e he hb=>by rw [e1];simpa using QF e he hb⟩
  | cons z a'=>
    cases a' with
    | nil=>
      cases e2
      exact ⟨o,ho,fun e he hb=>by rw [e1];simp [rQ e he hb]⟩
    | cons z2 a'=>
      injection e2 with e3 e4;injection e4 with e5 e6;obtain ⟨o2,cr,hh⟩:=hs.p4 (kn++k::i::a') x post (by rw [e6];simp);refine ⟨o2,cr,fun e he hb=>?_⟩;have:=hh e he hb;rw [e1,<- e3,<- e5];simp only [List.mem_append,List.mem_cons] at this ⊢;rcases this with h|h|h|h
      ·exact .inl h
      ·exact .inr (.inr (.inl h))
      ·exact .inr (.inl h)
      exact .inr (.inr (.inr h))
 cases c' with
 | nil=>
   simp at e2;obtain ⟨e3,e4⟩:=e2;subst e3;exact ⟨oj,FH,fun e he hb=>by have:=QF e he hb;rw [e1] at this;simpa using this⟩
 | cons z c'=>
   simp at e2;obtain ⟨e3,e4⟩:=e2;subst e3;exact hs.p4 pre x (c'++k::i::ct) (by rw [e1];simp)
theorem Yv {own jW:List Nat} {K:aC->ab->Prop} {Rg:List Nat->List Nat->aC->ab->Prop} {Q:Exit->Act->World->Prop} (hs:gr all cl ord) {fuel i:Nat} {rest kn nf:List Nat} {ai:List (Nat × Nat × G × AV)} {h:ab} {L:Array Bool} {g0:Gh} {a:Act} {w:World} {o:Oper}
  (hi:gZ n P all cl ord r kn (i::rest) nf ai h L) (ho:all[i]?=some o) (yx:all.toArray[i]?=some o) (gC:o.guard=none) (Yw:makes o.op=true) (dX:L.getD i false=false)
  (he:∀ e∈o.after.toList,Region.binds .any e=true->L.getD e.on false=true)
  (hr:gF P own jW o.dst (bT ai r) h (fun v h'=>fN n o.dst [] v (bT ai r) fun r'=>Rg rest nf r' h') o.op) (hc:bK n X g0 (bT (dq L ai) r) h a w) (hu:pA all.length L<=fuel+1)
  (IH:∀ (rest kn nf:List Nat) (ai:List (Nat × Nat × G × AV)) (h:ab) (L:Array Bool) (g0:Gh) (a:Act) (w:World),
    gZ n P all cl ord r kn rest nf ai h L->Rg rest nf (bT ai r) h->bK n X g0 (bT (dq L ai) r) h a w->pA all.length L<=fuel ->
    (∀ r' h' g' a' w',K r' h'->bK n X g' r' h' a' w'->Step X g0 h w g' h' w'->Q .normal a' w')->wpAny P .any all.toArray Q fuel L a w)
  (hf:∀ r' h' g' a' w',K r' h'->bK n X g' r' h' a' w'->Step X g0 h w g' h' w'->Q .normal a' w') :
  wpOp P all.toArray Q i (wpAny P .any all.toArray Q fuel (L.setIfInBounds i true)) a w:=by
 have mo:i∈ord:=by rw [hi.split];simp
 have jr:i ∉ kn:=by have:=hs.p3;rw [hi.split,List.nodup_append] at this;exact fun hm=>this.2.2 i hm i (by simp) rfl
 obtain ⟨aL,_⟩:=hi.lt hs mo;have nI:i<all.length:=by rw [<- hi.kr];exact aL
 have kc:=dX;have rQ:∀ e∈o.after.toList,Region.binds .any e=true->e.on∈kn:=by obtain ⟨o2,cr,hh⟩:=hs.p4 kn i rest hi.split;rw [ho] at cr;cases cr;exact hh
 have sH:∀ j,Cl cl i j->j∈kn:=by
  intro j hj
  have:=(sE hs (S:=fun x=>x∈kn\/x=i) (fun x hS=>by
   rcases hS with hS|rfl
   ·obtain ⟨o',bD,hh⟩:=hi.Cy hs x hS;exact ⟨o',bD,fun e a b=>.inl (hh e a b)⟩
   exact ⟨o,ho,fun e a b=>.inl (rQ e a b)⟩) i (.inr rfl) j hj)
  rcases this.1 with h|rfl
  ·exact h
  exact absurd this.2 (Nat.lt_irrefl _)
 have qw:∀ t∈ja all o,mn all cl ai r i t (bj (bT ai r) t):=by intro t ht;refine yv hi hs ho (fun x hx=>hx) (fun j hj=>⟨sH j hj,fun x hx _=>hx⟩) ?_ t ht;intro x hx jD;exact jr (hi.qq hs (hi.gu x hx).1 jD).1
 have sG:∀ j,Cl cl i j->L.getD j false=true:=by
  intro j hj
  have:=(sE hs (S:=fun x=>L.getD x false=true\/x=i) (fun x hS=>by
   rcases hS with hS|rfl
   ·obtain ⟨o',bD,hh⟩:=hi.sF x hS;exact ⟨o',bD,fun e a b=>.inl (hh e a b)⟩
   exact ⟨o,ho,fun e a b=>.inl (he e a b)⟩) i (.inr rfl) j hj)
  rcases this.1 with h|rfl
  ·exact h
  exact absurd this.2 (Nat.lt_irrefl _)
 unfold wpOp;simp only [yx,EI gC,if_true];left;have wK:∀ j,Cl cl i j->Cl cl j i->False:=fun j a b=>jr (hi.qq hs (sH j a) b).1
 have JM:∀ t∈qH o.op.operands.toList,bj (bT ai r) t=bj (bT (dq L ai) r) t:=by
  intro t ht;have CG:t∈ja all o:=by unfold ja;exact List.mem_append_right _ ht
  refine JC hi hs (qw t CG) (yv hi hs ho (fun x hx=>(pz.1 hx).1) ?_ ?_ t CG) wK
  ·intro j hj;exact ⟨sH j hj,fun x hx CB=>pz.2 ⟨hx,by rw [CB];exact sG j hj⟩⟩
  intro x hx jD;exact jr (hi.qq hs (hi.gu x (pz.1 hx).1).1 jD).1
 -- the heap behind it
 have uS:gF P own jW o.dst (bT (dq L ai) r) h (fun v h'=>(fN n o.dst [] v (bT ai r) fun r'=>Rg rest nf r' h')/\∃ x,h'=x::h) o.op:=
  Ys Yw (Px JM hr)
 refine IB uS hc ?_;rintro v h' g' u w' ⟨iA,hx⟩ dw cG aA
 have CH:∀ k'∈kn,(L.setIfInBounds i true).getD k' false=false->∃ o g v Rk,all[k']?=some o/\dG P all Rk h' (fun g' v'=>g'=g/\v'=v) o /\
   (∀ t∈ja all o,mn all cl ai r k' t (bj Rk t)) /\
   (∀ d,o.dst=some d->(k',d,g,v)∈ai/\d<n/\(∀ e∈g,e.1≠d)/\∀ t gg v,bj r t=some (gg,v)->∀ e∈gg,e.1≠d) /\
   (k' ∉ nf->∀ h',dG P all Rk h' (fun g' v'=>g'=g/\v'=v) o):=by
  intro k' bk fp
  have hl:L.getD k' false=false:=by
   cases hb:L.getD k' false with
   | false=>rfl
   | true=>rw [getD_set_true hb] at fp;cases fp
  obtain ⟨o',g2,v2,Rk,q1,q2,q3,q4,q5⟩:=hi.fact k' bk hl;refine ⟨o',g2,v2,Rk,q1,?_,q3,q4,q5⟩;obtain ⟨x,rfl⟩:=hx;exact Jx (fun g K hh=>Pw hh) q2
 have CJ:∀ {p:Prop},(L.setIfInBounds i true).getD i false=false->p:=by intro p hh;have:(L.setIfInBounds i true).getD i false=true:=(by simp [aL]);rw [this] at hh;cases hh
 have zB:∀ r2 h2 g2 a2 w2,K r2 h2->bK n X g2 r2 h2 a2 w2->Step X g' h' w' g2 h2 w2->Q .normal a2 w2:=
  fun r2 h2 g2 a2 w2 hK cJ mJ=>hf r2 h2 g2 a2 w2 hK cJ (aA.trans hc.cw.own mJ)
 have yr:pA all.length (L.setIfInBounds i true)<=fuel:=by have:=CA nI hi.kr.symm kc;omega
 cases hd:o.dst with
 | none=>
   rw [hd] at iA;have dH:=hi.enter (n:=n) (P:=P) (g:=[]) (v:=v) (eh:=ai) (qt:=nf) (h':=h') (L':=L.setIfInBounds i true) hs ho (by rw [hd]) (by simp) (.inr ⟨rfl,he⟩) CH CJ;refine IH rest _ nf ai h' _ g' _ w' dH iA ?_ yr zB;have hE:dq (L.setIfInBounds i true) ai=dq L ai:=by unfold dq;refine List.filter_congr fun x hx=>?_;exact getD_set_ne false (fun e=>jr (e ▸ (hi.gu x hx).1))
   rw [hE];simpa [Act.put] using hc.step dw aA
 | some d=>
   rw [hd] at iA;unfold fN at iA;simp only at iA;split at iA<;>try contradiction
   rename_i pB;rw [Nat.blt_eq] at pB;split at iA<;>try contradiction
   rename_i qf;have ql:=Ab (wo qf).2;have dH:=hi.enter (n:=n) (P:=P) (g:=[]) (v:=v) (eh:=(i,d,[],v)::ai) (qt:=nf) (h':=h') (L':=L.setIfInBounds i true) hs ho (by rw [hd]) (by simp) (.inr ⟨rfl,he⟩) CH CJ;refine IH rest _ nf ((i,d,[],v)::ai) h' _ g' _ w' dH iA ?_ yr zB;have hE:dq (L.setIfInBounds i true) ((i,d,[],v)::ai)=(i,d,[],v)::dq L ai:=by unfold dq;have h1:(L.setIfInBounds i true).getD i false=true:=(by simp [aL]);rw [List.filter_cons,if_pos h1];congr 1;refine List.filter_congr fun x hx=>?_;exact getD_set_ne false (fun e=>jr (e ▸ (hi.gu x hx).1))
   rw [hE];show bK n X g' ((d,[],v)::bT (dq L ai) r) h' (a.put (some d) u) w';refine hc.JE dw aA pB (by simp) ?_ (fun _=>⟨by simp,cG⟩) (fun hh=>absurd (fun e he=>by cases he) hh);intro t gg vv hl e ra wL;rcases JF hl with ⟨x,hx,ex⟩|hl
   ·obtain ⟨hx,iS⟩:=pz.1 hx;have jD:=hi.path x hx e (by rw [ex];exact ra) i o ho (wL ▸ hd);exact jr (hi.qq hs (hi.gu x hx).1 jD).1
   exact yj ql hl e ra wL
def CV (cl:List Nat) (q:Nat):List Nat->Bool
 | []=>true
 | x::l=>match Nat.testBit (kW cl q) x with
   | true=>false
   | false=>CV cl q l
def FI (cl:List Nat) (q:Nat):List Nat->Bool
 | []=>false
 | x::l=>match Nat.testBit (kW cl q) x with
   | true=>true
   | false=>FI cl q l
def CX (cl ms:List Nat):List Nat->Bool
 | []=>true
 | q::l=>match FI cl q ms with
   | true=>CX cl ms l
   | false=>false
def CY (cl ms:List Nat):List Nat->Bool
 | []=>true
 | m::l=>match CV cl m ms with
   | true=>CY cl ms l
   | false=>false
def Ao (cl:List Nat):List Nat->List Nat->Option (Nat × List Nat)
 | _,[]=>none
 | yD,q::l=>match CV cl q yD with
   | true=>some (q,l)
   | false=>match Ao cl (q::yD) l with
     | some (x,l')=>some (x,q::l')
     | none=>none
def wT (m:Nat):List Nat->List Nat
 | []=>[]
 | x::l=>match Nat.beq x m with
   | true=>l
   | false=>x::wT m l
def Ap (G:Nat->Prop):List Nat->Prop
 | []=>True
 | m::l=>G m/\Ap G l
theorem Kp {cl:List Nat} {q:Nat}:∀ {l:List Nat},CV cl q l=true->∀ x∈l,Nat.testBit (kW cl q) x=false
 | [],_,x,hx=>by cases hx
 | y::l,h,x,hx=>by
   unfold CV at h;split at h
   ·cases h
   rename_i hy;rcases List.mem_cons.1 hx with rfl|hx
   ·exact hy
   exact Kp h x hx
theorem QG {cl:List Nat} {q:Nat}:∀ {l:List Nat},FI cl q l=true->∃ x∈l,Cl cl q x
 | [],h=>by cases h
 | y::l,h=>by
   unfold FI at h;split at h
   ·rename_i hy;exact ⟨y,by simp,hy⟩
   obtain ⟨x,h1,h2⟩:=QG h;exact ⟨x,by simp [h1],h2⟩
theorem QH {cl ms:List Nat}:∀ {l:List Nat},CX cl ms l=true->∀ q∈l,∃ x∈ms,Cl cl q x
 | [],_,q,hq=>by cases hq
 | y::l,h,q,hq=>by
   unfold CX at h;split at h
   ·rename_i hy;rcases List.mem_cons.1 hq with rfl|hq
    ·exact QG hy
    exact QH h q hq
   cases h
theorem QI {cl ms:List Nat}:∀ {l:List Nat},CY cl ms l=true->∀ m∈l,∀ x∈ms,Nat.testBit (kW cl m) x=false
 | [],_,m,hm=>by cases hm
 | y::l,h,m,hm=>by
   unfold CY at h;split at h
   ·rename_i hy;rcases List.mem_cons.1 hm with rfl|hm
    ·exact Kp hy
    exact QI h m hm
   cases h
theorem QJ {cl:List Nat} {q:Nat}:∀ {l yD l2:List Nat},Ao cl yD l=some (q,l2)->∃ b c,l=b++q::c/\l2=b++c/\(∀ x∈yD,Nat.testBit (kW cl q) x=false)/\∀ x∈b,Nat.testBit (kW cl q) x=false
 | [],yD,l2,h=>by cases h
 | y::l,yD,l2,h=>by
   unfold Ao at h;split at h
   ·rename_i hy;cases h
    exact ⟨[],l,rfl,rfl,Kp hy,by simp⟩
   split at h
   ·rename_i x l' hx;cases h
    obtain ⟨b,c,rfl,rfl,h3,h4⟩:=QJ hx;refine ⟨y::b,c,rfl,rfl,fun z hz=>h3 z (by simp [hz]),fun z hz=>?_⟩;rcases List.mem_cons.1 hz with rfl|hz
    ·exact h3 _ (by simp)
    exact h4 z hz
   cases h
theorem QK {m:Nat}:∀ {ms:List Nat},m∈ms->∃ a b,ms=a++m::b/\wT m ms=a++b
 | [],h=>by cases h
 | x::l,h=>by
   unfold wT;split
   ·rename_i hx;have:=Nat.eq_of_beq_eq_true hx;subst this;exact ⟨[],l,rfl,rfl⟩
   rename_i hx;rcases List.mem_cons.1 h with rfl|h
   ·rw [Nat.beq_refl] at hx;cases hx
   obtain ⟨a,b,e1,e2⟩:=QK h;exact ⟨x::a,b,by rw [e1];rfl,by rw [e2];rfl⟩
theorem QL {G:Nat->Prop}:∀ {l:List Nat},Ap G l->∀ m∈l,G m
 | [],_,m,hm=>by cases hm
 | y::l,h,m,hm=>by
   rcases List.mem_cons.1 hm with rfl|hm
   ·exact h.1
   exact QL h.2 m hm
theorem QM {G G':Nat->Prop} (hg:∀ m,G m->G' m):∀ {l:List Nat},Ap G l->Ap G' l
 | [],_=>trivial
 | y::l,h=>⟨hg _ h.1,QM hg h.2⟩
theorem gr.front {i:Nat} {post:List Nat}:∀ {a kn:List Nat},gr all cl (kn++(a++i::post))->(∀ x∈a,Nat.testBit (kW cl i) x=false)->gr all cl (kn++(i::(a++post)))
 | [],kn,hs,_=>hs
 | x::a,kn,hs,h=>by have h1:gr all cl ((kn++[x])++(i::(a++post))):=gr.front (a:=a) (kn:=kn++[x]) (by simpa using hs) (fun y hy=>h y (by simp [hy]));have h2:gr all cl (kn++x::i::(a++post)):=(by simpa using h1);exact gr.swap h2 (h x (by simp))
def yE (P:Program) (c:aw) (n:Nat) (all:List Oper) (cl:List Nat) (K:aC->ab->Prop):Nat->List Nat->List Nat->List Nat->aC->ab->Prop
 | 0,_,_,_,_,_=>False
 | f+1,ms,rest,nf,r,h=>match ms with
   | []=>rF P c n all cl K rest nf r h
   | m0::gv=>match Ao cl (m0::gv) rest with
     | some (q,CZ)=>(match all[q]? with
       | none=>False
       | some o=>match yY c o with
         | true=>False
         | false=>dG P all r h (fun g v=>match xo cl all q g with
           | true=>fN n o.dst g v r fun r'=>yE P c n all cl K f (m0::gv) CZ (match qI r g o.op with|true=>nf|false=>q::nf) r' h
           | false=>False) o)
     | none=>(CY cl (m0::gv) (m0::gv)&&CX cl (m0::gv) rest)=true/\Ap (fun m=>match all[m]? with
       | none=>False
       | some o=>(o.guard.isNone&&makes o.op)=true/\gF P c.own c.lc o.dst r h (fun v h'=>fN n o.dst [] v r fun r'=>yE P c n all cl K f (wT m (m0::gv)) rest nf r' h') o.op) (m0::gv)
theorem Yx {c:aw} {K:aC->ab->Prop} {Q:Exit->Act->World->Prop}:∀ (fuel f:Nat) (ord ms rest kn nf:List Nat) (ai:List (Nat × Nat × G × AV)) (h:ab) (L:Array Bool) (g0:Gh) (a:Act) (w:World),gr all cl ord ->
  gZ n P all cl ord r kn (ms++rest) nf ai h L->yE P c n all cl K f ms rest nf (bT ai r) h->bK n X g0 (bT (dq L ai) r) h a w->pA all.length L<=fuel ->
  (∀ r' h' g' a' w',K r' h'->bK n X g' r' h' a' w'->Step X g0 h w g' h' w'->Q .normal a' w')->wpAny P .any all.toArray Q fuel L a w:=by
 intro fuel;induction fuel with
 | zero=>
   intro f ord ms rest kn nf ai h L g0 a w hs hi hr hc hu hf;have wF:=PE (Nat.le_zero.1 hu);cases f with
   | zero=>exact hr.elim
   | succ f=>
   cases ms with
   | nil=>exact JK hs 0 rest kn nf ai h L g0 a w hi hr hc hu hf
   | cons x ms=>
     have hx:x∈ord:=by rw [hi.split];simp
     obtain ⟨aL,_⟩:=hi.lt hs hx;have h1:=hi.qp x (wF x (by rw [<- hi.kr];exact aL));have:=hs.p3;rw [hi.split,List.nodup_append] at this;exact absurd rfl (this.2.2 x h1 x (by simp))
 | succ fuel IH=>
   intro f;induction f with
   | zero=>intro ord ms rest kn nf ai h L g0 a w hs hi hr;exact hr.elim
   | succ f wM=>
     intro ord ms rest kn nf ai h L g0 a w hs hi hr hc hu hf;cases ms with
     | nil=>exact JK hs (fuel+1) rest kn nf ai h L g0 a w hi hr hc hu hf
     | cons m0 gv=>
     have CD:=hr;unfold yE at hr;simp only at hr;split at hr
     ·-- a quiet one,brought to the front
      rename_i k CZ Yy;obtain ⟨b,c2,rfl,rfl,te,vK⟩:=QJ Yy
      have lf:gr all cl (kn++(k::(((m0::gv)++b)++c2))):=gr.front (by have:=hs;rw [hi.split] at this;simpa using this) (fun x hx=>by
       rcases List.mem_append.1 hx with hx|hx
       ·exact te x hx
       exact vK x hx)
      have hi:gZ n P all cl (kn++(k::(((m0::gv)++b)++c2))) r kn (k::(((m0::gv)++b)++c2)) nf ai h L:=⟨rfl,hi.kr,hi.qp,hi.sF,hi.gu,hi.yu,hi.Cw,hi.path,hi.fact⟩;have hs:=lf;have mo:k∈kn++(k::(((m0::gv)++b)++c2)):=(by simp);have jr:k ∉ kn:=by have:=hs.p3;rw [List.nodup_append] at this;exact fun hm=>this.2.2 k hm k (by simp) rfl
      obtain ⟨aL,o,ho⟩:=hi.lt hs mo
      have dX:L.getD k false=false:=by
       cases hb:L.getD k false with
       | false=>rfl
       | true=>exact absurd (hi.qp k hb) jr
      have rQ:∀ e∈o.after.toList,Region.binds .any e=true->e.on∈kn:=by obtain ⟨o2,cr,hh⟩:=hs.p4 kn k _ hi.split;rw [ho] at cr;cases cr;exact hh
      have sH:∀ j,Cl cl k j->j∈kn:=by
       intro j hj
       have:=(sE hs (S:=fun i=>i∈kn\/i=k) (fun i hS=>by
        rcases hS with hS|rfl
        ·obtain ⟨o',bD,hh⟩:=hi.Cy hs i hS;exact ⟨o',bD,fun e a b=>.inl (hh e a b)⟩
        exact ⟨o,ho,fun e a b=>.inl (rQ e a b)⟩) k (.inr rfl) j hj)
       rcases this.1 with h|rfl
       ·exact h
       exact absurd this.2 (Nat.lt_irrefl _)
      have qw:∀ t∈ja all o,mn all cl ai r k t (bj (bT ai r) t):=by intro t ht;refine yv hi hs ho (fun x hx=>hx) (fun j hj=>⟨sH j hj,fun x hx _=>hx⟩) ?_ t ht;intro x hx jD;exact jr (hi.qq hs (hi.gu x hx).1 jD).1
      have e0:(((m0::gv)++b)++c2)=(m0::gv)++(b++c2):=(by simp);rw [e0] at hi hs;rw [ho] at hr;simp only at hr;split at hr<;>try contradiction
      obtain ⟨g,v,fY,hE⟩:=Jw hr;split at fY<;>try contradiction
      rename_i iP;have iP:=Ft iP;obtain ⟨js,pC⟩:∃ js,js=(match qI (bT ai r) g o.op with|true=>nf|false=>k::nf):=⟨_,rfl⟩
      have wN:k ∉ js->∀ h',dG P all (bT ai r) h' (fun g' v'=>g'=g/\v'=v) o:=by
       intro bk h';rw [pC] at bk;split at bk
       ·rename_i CK;exact Jy CK hE
       simp at bk
      have CL:∀ x∈nf,x∈js:=by
       intro x hx;rw [pC];split
       ·exact hx
       exact List.mem_cons_of_mem _ hx
      have hold:∀ k'∈kn,L.getD k' false=false->∃ o g v Rk,all[k']?=some o/\dG P all Rk h (fun g' v'=>g'=g/\v'=v) o /\
          (∀ t∈ja all o,mn all cl ai r k' t (bj Rk t)) /\
          (∀ d,o.dst=some d->(k',d,g,v)∈ai/\d<n/\(∀ e∈g,e.1≠d)/\∀ t gg v,bj r t=some (gg,v)->∀ e∈gg,e.1≠d) /\
          (k' ∉ js->∀ h',dG P all Rk h' (fun g' v'=>g'=g/\v'=v) o):=by
       intro k' bk fp;obtain ⟨o',g2,v2,Rk,q1,q2,q3,q4,q5⟩:=hi.fact k' bk fp;exact ⟨o',g2,v2,Rk,q1,q2,q3,q4,fun hh=>q5 fun hm=>hh (CL _ hm)⟩
      cases hd:o.dst with
      | none=>
        rw [hd] at fY
        have dH:=hi.enter (n:=n) (P:=P) (g:=g) (v:=v) (eh:=ai) (qt:=js) (h':=h) (L':=L) hs ho (by rw [hd]) iP (.inl rfl) hold
         (fun _=>⟨o,g,v,bT ai r,ho,hE,qw,fun d cU=>(by rw [hd] at cU;cases cU),wN⟩)
        exact wM _ _ _ _ _ ai h L g0 a w hs dH (by rw [pC];exact fY) hc hu hf
      | some d=>
        rw [hd] at fY;unfold fN at fY;simp only at fY;split at fY<;>try contradiction
        rename_i pB;rw [Nat.blt_eq] at pB;split at fY<;>try contradiction
        rename_i qf;obtain ⟨jh,dx⟩:=wo qf;have ql:=Ab dx
        have dH:=hi.enter (n:=n) (P:=P) (g:=g) (v:=v) (eh:=(k,d,g,v)::ai) (qt:=js) (h':=h) (L':=L) hs ho (by rw [hd]) iP (.inl rfl) hold
         (fun _=>⟨o,g,v,bT ai r,ho,hE,fun t ht=>(qw t ht).more (fun x hx=>List.mem_cons_of_mem _ hx),
           fun d' cU=>(by rw [hd] at cU;cases cU;exact ⟨List.mem_cons_self,pB,jh,fun t gg vv hl=>yj ql hl⟩),wN⟩)
        refine wM _ _ _ _ _ ((k,d,g,v)::ai) h L g0 a w hs dH (by rw [pC];exact fY) ?_ hu hf;have hE:dq L ((k,d,g,v)::ai)=dq L ai:=by unfold dq;rw [List.filter_cons,if_neg (by simp only [dX];exact Bool.false_ne_true)]
        rw [hE];exact hc
     -- those that NT made
     obtain ⟨Kq,hE⟩:=hr;simp only [Bool.and_eq_true] at Kq;have sw:=QI Kq.1;have CE:=QH Kq.2;have mI:m0 ∉ kn:=by have:=hs.p3;rw [hi.split,List.nodup_append] at this;exact fun hm=>this.2.2 m0 hm m0 (by simp) rfl
     refine ⟨fun CC=>?_,fun i hm=>?_⟩
     ·have:=JG hi hs CC m0 (by rw [hi.split];simp);exact absurd (hi.qp m0 this) mI
     obtain ⟨m1,Kr,yx,m2⟩:=mem_ready.1 hm;have qx:all[i]?=some Kr:=(by simpa using yx);have nI:i<all.length:=(List.getElem?_eq_some_iff.1 qx).1;have kc:L.getD i false=false:=by rw [<- Cz (by rw [hi.kr];exact nI)];exact m1
     have he:∀ e∈Kr.after.toList,Region.binds .any e=true->L.getD e.on false=true:=fun e he hb=>m2 e (by simpa using he) hb
     have sG:∀ j,Cl cl i j->L.getD j false=true:=by
      intro j hj
      have:=(sE hs (S:=fun x=>L.getD x false=true\/x=i) (fun x hS=>by
       rcases hS with hS|rfl
       ·obtain ⟨o',bD,hh⟩:=hi.sF x hS;exact ⟨o',bD,fun e a b=>.inl (hh e a b)⟩
       exact ⟨Kr,qx,fun e a b=>.inl (he e a b)⟩) i (.inr rfl) j hj)
      rcases this.1 with h|rfl
      ·exact h
      exact absurd this.2 (Nat.lt_irrefl _)
     have cn:i∈kn\/i∈m0::gv\/i∈rest:=by have:=hs.p2 i nI;rw [hi.split] at this;simpa [or_assoc] using this
     rcases cn with oR|Ks|JL
     ·refine JJ hi hs oR kc (fun o2 cr=>by rw [qx] at cr;cases cr;exact he) hc ?_;intro g' a' w' bQ aA
      exact IH (f+1) ord (m0::gv) rest kn nf ai h _ g' a' w' hs (hi.list oR qx he) CD bQ (by have:=CA nI hi.kr.symm kc;omega)
       (fun r2 h2 g2 a2 w2 hK cJ mJ=>hf r2 h2 g2 a2 w2 hK cJ (aA.trans hc.cw.own mJ))
     ·have hA:=QL hE i Ks;rw [qx] at hA;simp only [Bool.and_eq_true,Option.isNone_iff_eq_none] at hA;obtain ⟨⟨Yz,Kj⟩,hA⟩:=hA;obtain ⟨a1,b1,e1,e2⟩:=QK Ks;have lf:gr all cl (kn++(i::(a1++(b1++rest)))):=gr.front (by have:=hs;rw [hi.split,e1] at this;simpa using this) (fun x hx=>sw i Ks x (by rw [e1];simp [hx]));have dH:gZ n P all cl (kn++(i::(a1++(b1++rest)))) r kn (i::(a1++(b1++rest))) nf ai h L:=⟨rfl,hi.kr,hi.qp,hi.sF,hi.gu,hi.yu,hi.Cw,hi.path,hi.fact⟩
      refine Yv (Rg:=fun l nf r' h'=>l=wT i (m0::gv)++rest/\yE P c n all cl K f (wT i (m0::gv)) rest nf r' h') lf dH qx yx Yz Kj kc he
       (ri (fun v h'=>rj fun r' hh=>⟨by rw [e2];simp,hh⟩) hA) hc hu ?_ hf
      rintro ct kn nf ai h L g0 a w aD ⟨rfl,uS⟩ cJ gf YA;exact IH f _ (wT i (m0::gv)) rest kn nf ai h L g0 a w lf aD uS cJ gf YA
     obtain ⟨x,hx,jD⟩:=CE i JL;have h1:=sG x jD;have h2:=hi.qp x h1;have:=hs.p3;rw [hi.split,List.nodup_append] at this;exact absurd rfl (this.2.2 x h2 x (List.mem_append_left _ hx))
def Da (P:Program) (c:aw) (n:Nat) (all:List Oper) (K:aC->ab->Prop):Nat->List Nat->List Nat->List Nat->aC->ab->Prop
 | 0,_,_,_,_,_=>False
 | f+1,ms,rest,nf,r,h=>match ms with
   | []=>vm P c n all K rest nf r h
   | m0::gv=>match Ao (iZ all []) (m0::gv) rest with
     | some (q,CZ)=>(match all[q]? with
       | none=>False
       | some o=>match yY c o with
         | true=>False
         | false=>dG P all r h (yB (fun nf r h=>Da P c n all K f (m0::gv) CZ nf r h) all q n o nf r h) o)
     | none=>(CY (iZ all []) (m0::gv) (m0::gv)&&CX (iZ all []) (m0::gv) rest)=true/\Ap (fun m=>match all[m]? with
       | none=>False
       | some o=>(o.guard.isNone&&makes o.op)=true/\gF P c.own c.lc o.dst r h (vl (Da P c n all K f (wT m (m0::gv)) rest nf) n o.dst r) o.op) (m0::gv)
theorem Kt {c:aw} {K:aC->ab->Prop}:∀ {f:Nat} {ms rest nf:List Nat} {r:aC} {h:ab},Da P c n all K f ms rest nf r h->yE P c n all (iZ all []) K f ms rest nf r h
 | 0,ms,rest,nf,r,h,hh=>hh.elim
 | f+1,ms,rest,nf,r,h,hh=>by
   unfold Da at hh;unfold yE;cases ms with
   | nil=>exact Ae (fun _ _ h=>h) hh
   | cons m0 gv=>
     simp only at hh ⊢;cases hp:Ao (iZ all []) (m0::gv) rest with
     | some x=>
       obtain ⟨q,CZ⟩:=x;rw [hp] at hh;simp only at hh ⊢;cases ho:all[q]? with
       | none=>rw [ho] at hh;exact hh.elim
       | some o=>
         rw [ho] at hh;simp only at hh ⊢;cases hl:yY c o with
         | true=>rw [hl] at hh;exact hh.elim
         | false=>
           rw [hl] at hh;simp only at hh ⊢;refine JW (fun g v hv=>?_) hh;unfold yB at hv;cases hp:xo (iZ all []) all q g with
           | false=>rw [hp] at hv;exact hv.elim
           | true=>
             rw [hp] at hv;exact rj (fun _=>Kt) hv
     | none=>
       rw [hp] at hh;simp only at hh ⊢;refine ⟨hh.1,QM (fun m hm=>?_) hh.2⟩;cases ho:all[m]? with
       | none=>rw [ho] at hm;exact hm.elim
       | some o=>
         rw [ho] at hm;exact ⟨hm.1,ri (fun v h'=>Fx fun _ _=>Kt) hm.2⟩
def FJ (P:Program) (c:aw) (n:Nat) (all:List Oper) (K:aC->ab->Prop) (ms post:List Nat):List Nat->List Nat->aC->ab->Prop
 | [],nf,r,h=>Da P c n all K 100 ms post nf r h
 | i::pre,nf,r,h=>match all[i]? with
   | none=>False
   | some o=>match yY c o with
     | true=>False
     | false=>dG P all r h (yB (FJ P c n all K ms post pre) all i n o nf r h) o
theorem YB {c:aw} {K:aC->ab->Prop} {Q:Exit->Act->World->Prop} {ms post:List Nat} {fuel:Nat} {g0:Gh} {a:Act} {w:World} {L:Array Bool} (hs:gr all (iZ all []) ord):∀ (pre kn nf:List Nat) (ai:List (Nat × Nat × G × AV)) (h:ab),
  gZ n P all (iZ all []) ord r kn (pre++(ms++post)) nf ai h L->FJ P c n all K ms post pre nf (bT ai r) h->bK n X g0 (bT (dq L ai) r) h a w->pA all.length L<=fuel ->
  (∀ r' h' g' a' w',K r' h'->bK n X g' r' h' a' w'->Step X g0 h w g' h' w'->Q .normal a' w')->wpAny P .any all.toArray Q fuel L a w:=by
 intro pre;induction pre with
 | nil=>intro kn nf ai h hi hr hc hu hf;exact Yx fuel 100 ord ms post kn nf ai h L g0 a w hs hi (Kt hr) hc hu hf
 | cons k pre wM=>
   intro kn nf ai h hi hr hc hu hf;have mo:k∈ord:=by rw [hi.split];simp
   have jr:k ∉ kn:=by have:=hs.p3;rw [hi.split,List.nodup_append] at this;exact fun hm=>this.2.2 k hm k (by simp) rfl
   obtain ⟨aL,o,ho⟩:=hi.lt hs mo
   have dX:L.getD k false=false:=by
    cases hb:L.getD k false with
    | false=>rfl
    | true=>exact absurd (hi.qp k hb) jr
   have rQ:∀ e∈o.after.toList,Region.binds .any e=true->e.on∈kn:=by obtain ⟨o2,cr,hh⟩:=hs.p4 kn k _ hi.split;rw [ho] at cr;cases cr;exact hh
   have sH:∀ j,Cl (iZ all []) k j->j∈kn:=by
    intro j hj
    have:=(sE hs (S:=fun i=>i∈kn\/i=k) (fun i hS=>by
     rcases hS with hS|rfl
     ·obtain ⟨o',bD,hh⟩:=hi.Cy hs i hS;exact ⟨o',bD,fun e a b=>.inl (hh e a b)⟩
     exact ⟨o,ho,fun e a b=>.inl (rQ e a b)⟩) k (.inr rfl) j hj)
    rcases this.1 with h|rfl
    ·exact h
    exact absurd this.2 (Nat.lt_irrefl _)
   have qw:∀ t∈ja all o,mn all (iZ all []) ai r k t (bj (bT ai r) t):=by intro t ht;refine yv hi hs ho (fun x hx=>hx) (fun j hj=>⟨sH j hj,fun x hx _=>hx⟩) ?_ t ht;intro x hx jD;exact jr (hi.qq hs (hi.gu x hx).1 jD).1
   unfold FJ at hr;rw [ho] at hr;simp only at hr;split at hr<;>try contradiction
   obtain ⟨g,v,fY,hE⟩:=Jw hr;unfold yB at fY;split at fY<;>try contradiction
   rename_i iP;have iP:=Ft iP;obtain ⟨js,pC⟩:∃ js,js=(match qI (bT ai r) g o.op with|true=>nf|false=>k::nf):=⟨_,rfl⟩
   have wN:k ∉ js->∀ h',dG P all (bT ai r) h' (fun g' v'=>g'=g/\v'=v) o:=by
    intro bk h';rw [pC] at bk;split at bk
    ·rename_i CK;exact Jy CK hE
    simp at bk
   have CL:∀ x∈nf,x∈js:=by
    intro x hx;rw [pC];split
    ·exact hx
    exact List.mem_cons_of_mem _ hx
   have hold:∀ k'∈kn,L.getD k' false=false->∃ o g v Rk,all[k']?=some o/\dG P all Rk h (fun g' v'=>g'=g/\v'=v) o /\
       (∀ t∈ja all o,mn all (iZ all []) ai r k' t (bj Rk t)) /\
       (∀ d,o.dst=some d->(k',d,g,v)∈ai/\d<n/\(∀ e∈g,e.1≠d)/\∀ t gg v,bj r t=some (gg,v)->∀ e∈gg,e.1≠d) /\
       (k' ∉ js->∀ h',dG P all Rk h' (fun g' v'=>g'=g/\v'=v) o):=by
    intro k' bk fp;obtain ⟨o',g2,v2,Rk,q1,q2,q3,q4,q5⟩:=hi.fact k' bk fp;exact ⟨o',g2,v2,Rk,q1,q2,q3,q4,fun hh=>q5 fun hm=>hh (CL _ hm)⟩
   cases hd:o.dst with
   | none=>
     rw [hd] at fY
     have dH:=hi.enter (n:=n) (P:=P) (g:=g) (v:=v) (eh:=ai) (qt:=js) (h':=h) (L':=L) hs ho (by rw [hd]) iP (.inl rfl) hold
      (fun _=>⟨o,g,v,bT ai r,ho,hE,qw,fun d cU=>(by rw [hd] at cU;cases cU),wN⟩)
     exact wM _ _ ai h dH (by rw [pC];exact fY) hc hu hf
   | some d=>
     rw [hd] at fY;unfold fN at fY;simp only at fY;split at fY<;>try contradiction
     rename_i pB;rw [Nat.blt_eq] at pB;split at fY<;>try contradiction
     rename_i qf;obtain ⟨jh,dx⟩:=wo qf;have ql:=Ab dx
     have dH:=hi.enter (n:=n) (P:=P) (g:=g) (v:=v) (eh:=(k,d,g,v)::ai) (qt:=js) (h':=h) (L':=L) hs ho (by rw [hd]) iP (.inl rfl) hold
      (fun _=>⟨o,g,v,bT ai r,ho,hE,fun t ht=>(qw t ht).more (fun x hx=>List.mem_cons_of_mem _ hx),
        fun d' cU=>(by rw [hd] at cU;cases cU;exact ⟨List.mem_cons_self,pB,jh,fun t gg vv hl=>yj ql hl⟩),wN⟩)
     refine wM _ _ ((k,d,g,v)::ai) h dH (by rw [pC];exact fY) ?_ hu hf;have hE:dq L ((k,d,g,v)::ai)=dq L ai:=by unfold dq;rw [List.filter_cons,if_neg (by simp only [dX];exact Bool.false_ne_true)]
     rw [hE];exact hc
theorem Wu {c:aw} {F:Func} {E:En} {p:List Bool} {S:List Fr} {k id:Nat} {ops:Array Oper} {r:aC} {h:ab} (fJ:cat F p=.region id ops true) (hm:P.follows .mixedOrders=true) (pre ms post:List Nat) (fz:List Nat)
  (hd:aJ (aH F p) (pre++(ms++post))=true)
  (hr:FJ P c E.n (aH F p) (fun r' h'=>sZ (fun rG pS=>oP rG (fun r3=>Ai (run P c F E k (.ex .normal) S) r3 pS) c.mw) fz r' h') ms post pre [] r h) :
  Holds P E.n E.X (cat F p) (fun e r h=>run P c F E k (.ex e) S r h) r h:=by
 have ho:=PS fJ;rw [ho] at hd hr;rw [fJ];refine ⟨fun g a w hc=>?_⟩;refine wp_region_any hm ?_;obtain ⟨dc,ds⟩:=hc.cw.drew;have hs:=PA hd;have bQ:bK E.n E.X g r h a w.drew:=hc.step dc ds
 have hi:gZ E.n P ops.toList (iZ ops.toList []) (pre++(ms++post)) r [] (pre++(ms++post)) [] [] h (Array.replicate ops.size false):=by
  have cG:∀ i,(Array.replicate ops.size false).getD i false=false:=by intro i;by_cases hi:i<ops.size<;>simp [hi]
  refine ⟨rfl,by simp,?_,?_,by simp,by simp,by simp,by simp,by simp⟩
  ·intro i hL;rw [cG i] at hL;cases hL
  intro i hL;rw [cG i] at hL;cases hL
 have:=YB (n:=E.n) (X:=E.X) (r:=r) (c:=c) (fuel:=ops.size) (g0:=g) (a:=a) (w:=w.drew) (L:=Array.replicate ops.size false) (Q:=fun e a' w'=>∃ ex g' r' h',e=Ex.toExit ex/\run P c F E k (.ex ex) S r' h'/\bK E.n E.X g' r' h' a' w'/\Step E.X g h w g' h' w') hs pre [] [] [] h
  hi hr bQ (by unfold pA;exact Nat.le_trans (List.length_filter_le _ _) (by simp)) (by
   intro r' h' g' a' w' hK cJ aA;obtain ⟨r2,h2,hK,Ac,CM⟩:=JN hK cJ;obtain ⟨r3,hK,hl⟩:=zJ (k:=fun r3=>Ai (run P c F E k (.ex .normal) S) r3 h2) hK;obtain ⟨r4,h4,ht,hK⟩:=hK;obtain ⟨g4,YC,YD⟩:=ht _ _ _ _ _ (Ac.less hl);exact ⟨.normal,g4,r4,h4,rfl,hK,YC,ds.trans hc.cw.own (aA.trans bQ.cw.own (CM.trans cJ.cw.own YD))⟩)
 exact this
theorem Wv {A:Prop} {P:Nat->Nat->Nat->Prop} (h1:(∀ a b c,P a b c)->A) (h2:∀ a b c,P a b c):A:=h1 h2
end Go.Abs
/-
 S0: QN S1 S2 AT S3 S4,IN S5 S6 (YE/lay-plain.YF out of 'S7.S8,Yr YE/lay-S9.YF wrote): QN YG T0 T1 QN YG T2: 'T3,'T4,'T5,'T6,'T7 T8 T9 U0: no command of the U1: U2 A U3-IN. U4 U5: the table of numbers ('.._ren') and one theorem,a field a fact of the U6 own or the U7 U8;each YH: U9 V0.
-/
namespace Go.Proofs
open Go.Shelf
def Tryz.YI:Go.Shelf.Ren:=⟨fun|6=>219|15=>135|14=>253|28=>208|29=>209|20=>275|21=>276|22=>277|23=>278|24=>279|25=>280|26=>281|27=>282|46=>290|47=>246|48=>247|49=>291|50=>292|57=>296|n=>n,fun|22=>48|24=>128|25=>331|3=>3|39=>230|0=>0|53=>306|55=>308|4=>4|46=>300|45=>299|50=>131|5=>5|9=>9|66=>353|70=>357|76=>377|77=>147|n=>n,fun|n=>n⟩
theorem Tryz.YJ:Go.Proofs.SlLaysF0.n6 Tryz.prog Tryz.YI:={
 mixed:=by kernel_rfl
 f6:=⟨Tryz.f219.name,by decide,Tryz.func219.trans (congrArg some (by kernel_rfl))⟩
 f14:=⟨Tryz.f253.name,by decide,Tryz.func253.trans (congrArg some (by kernel_rfl))⟩
 f15:=Tryz.func135.trans (congrArg some (by kernel_rfl))
 f20:=⟨Tryz.f275.name,by decide,Tryz.func275.trans (congrArg some (by kernel_rfl))⟩
 f21:=⟨Tryz.f276.name,by decide,Tryz.func276.trans (congrArg some (by kernel_rfl))⟩
 f22:=⟨Tryz.f277.name,by decide,Tryz.func277.trans (congrArg some (by kernel_rfl))⟩
 f23:=⟨Tryz.f278.name,by decide,Tryz.func278.trans (congrArg some (by kernel_rfl))⟩
 f24:=⟨Tryz.f279.name,by decide,Tryz.func279.trans (congrArg some (by kernel_rfl))⟩
 f25:=⟨Tryz.f280.name,by decide,Tryz.func280.trans (congrArg some (by kernel_rfl))⟩
 f26:=⟨Tryz.f281.name,by decide,Tryz.func281.trans (congrArg some (by kernel_rfl))⟩
 f27:=⟨Tryz.f282.name,by decide,Tryz.func282.trans (congrArg some (by kernel_rfl))⟩
 f28:=Tryz.func208.trans (congrArg some (by kernel_rfl))
 f29:=Tryz.func209.trans (congrArg some (by kernel_rfl))
 f46:=⟨Tryz.f290.name,by decide,Tryz.func290.trans (congrArg some (by kernel_rfl))⟩
 f47:=Tryz.func246.trans (congrArg some (by kernel_rfl))
 f48:=Tryz.func247.trans (congrArg some (by kernel_rfl))
 f49:=⟨Tryz.f291.name,by decide,Tryz.func291.trans (congrArg some (by kernel_rfl))⟩
 f50:=⟨Tryz.f292.name,by decide,Tryz.func292.trans (congrArg some (by kernel_rfl))⟩
 f57:=⟨Tryz.f296.name,by decide,Tryz.func296.trans (congrArg some (by kernel_rfl))⟩
 t0:=Tryz.underlying0
 a0:=Tryz.isAgg0
 z0:=Tryz.sizeOf0
 v0:=Tryz.zeroValue0
 t3:=Tryz.underlying3
 a3:=Tryz.isAgg3
 z3:=Tryz.sizeOf3
 v3:=Tryz.zeroValue3
 t4:=Tryz.underlying4
 a4:=Tryz.isAgg4
 z4:=Tryz.sizeOf4
 v4:=Tryz.zeroValue4
 t5:=Tryz.underlying5
 a5:=Tryz.isAgg5
 z5:=Tryz.sizeOf5
 v5:=Tryz.zeroValue5
 t9:=Tryz.underlying9
 a9:=Tryz.isAgg9
 z9:=Tryz.sizeOf9
 v9:=Tryz.zeroValue9
 t22:=Tryz.underlying48
 a22:=Tryz.isAgg48
 z22:=Tryz.sizeOf48
 v22:=Tryz.zeroValue48
 t25:=Tryz.underlying331
 a25:=Tryz.isAgg331
 z25:=Tryz.sizeOf331
 v25:=Tryz.zeroValue331
 t39:=Tryz.underlying230
 a39:=Tryz.isAgg230
 z39:=Tryz.sizeOf230
 v39:=Tryz.zeroValue230
 t45:=Tryz.underlying299
 a45:=Tryz.isAgg299
 z45:=Tryz.sizeOf299
 v45:=Tryz.zeroValue299
 t46:=Tryz.underlying300
 a46:=Tryz.isAgg300
 z46:=Tryz.sizeOf300
 v46:=Tryz.zeroValue300
 t50:=Tryz.underlying131
 a50:=Tryz.isAgg131
 z50:=Tryz.sizeOf131
 v50:=Tryz.zeroValue131
 t53:=Tryz.underlying306
 a53:=Tryz.isAgg306
 z53:=Tryz.sizeOf306
 v53:=Tryz.zeroValue306
 t55:=Tryz.underlying308
 a55:=Tryz.isAgg308
 z55:=Tryz.sizeOf308
 v55:=Tryz.zeroValue308
 t66:=Tryz.underlying353
 a66:=Tryz.isAgg353
 z66:=Tryz.sizeOf353
 v66:=Tryz.zeroValue353
 t70:=Tryz.underlying357
 a70:=Tryz.isAgg357
 z70:=Tryz.sizeOf357
 v70:=Tryz.zeroValue357
 t76:=Tryz.underlying377
 a76:=Tryz.isAgg377
 z76:=Tryz.sizeOf377
 v76:=Tryz.zeroValue377
 t77:=Tryz.underlying147
 a77:=Tryz.isAgg147
 z77:=Tryz.sizeOf147
 v77:=Tryz.zeroValue147 }
def Tryz.YK:Go.Shelf.Ren:=⟨fun|6=>197|15=>135|14=>243|28=>208|29=>209|20=>264|21=>265|22=>266|23=>267|24=>268|25=>269|26=>270|27=>271|46=>286|47=>246|48=>247|49=>287|50=>288|57=>294|n=>n,fun|22=>137|24=>141|25=>297|3=>3|39=>230|0=>0|53=>306|55=>308|4=>4|46=>300|45=>299|50=>131|5=>5|9=>9|66=>353|70=>357|76=>377|77=>147|n=>n,fun|n=>n⟩
theorem Tryz.YL:Go.Proofs.SlLaysF0.n6 Tryz.prog Tryz.YK:={
 mixed:=by kernel_rfl
 f6:=⟨Tryz.f197.name,by decide,Tryz.func197.trans (congrArg some (by kernel_rfl))⟩
 f14:=⟨Tryz.f243.name,by decide,Tryz.func243.trans (congrArg some (by kernel_rfl))⟩
 f15:=Tryz.func135.trans (congrArg some (by kernel_rfl))
 f20:=⟨Tryz.f264.name,by decide,Tryz.func264.trans (congrArg some (by kernel_rfl))⟩
 f21:=⟨Tryz.f265.name,by decide,Tryz.func265.trans (congrArg some (by kernel_rfl))⟩
 f22:=⟨Tryz.f266.name,by decide,Tryz.func266.trans (congrArg some (by kernel_rfl))⟩
 f23:=⟨Tryz.f267.name,by decide,Tryz.func267.trans (congrArg some (by kernel_rfl))⟩
 f24:=⟨Tryz.f268.name,by decide,Tryz.func268.trans (congrArg some (by kernel_rfl))⟩
 f25:=⟨Tryz.f269.name,by decide,Tryz.func269.trans (congrArg some (by kernel_rfl))⟩
 f26:=⟨Tryz.f270.name,by decide,Tryz.func270.trans (congrArg some (by kernel_rfl))⟩
 f27:=⟨Tryz.f271.name,by decide,Tryz.func271.trans (congrArg some (by kernel_rfl))⟩
 f28:=Tryz.func208.trans (congrArg some (by kernel_rfl))
 f29:=Tryz.func209.trans (congrArg some (by kernel_rfl))
 f46:=⟨Tryz.f286.name,by decide,Tryz.func286.trans (congrArg some (by kernel_rfl))⟩
 f47:=Tryz.func246.trans (congrArg some (by kernel_rfl))
 f48:=Tryz.func247.trans (congrArg some (by kernel_rfl))
 f49:=⟨Tryz.f287.name,by decide,Tryz.func287.trans (congrArg some (by kernel_rfl))⟩
 f50:=⟨Tryz.f288.name,by decide,Tryz.func288.trans (congrArg some (by kernel_rfl))⟩
 f57:=⟨Tryz.f294.name,by decide,Tryz.func294.trans (congrArg some (by kernel_rfl))⟩
 t0:=Tryz.underlying0
 a0:=Tryz.isAgg0
 z0:=Tryz.sizeOf0
 v0:=Tryz.zeroValue0
 t3:=Tryz.underlying3
 a3:=Tryz.isAgg3
 z3:=Tryz.sizeOf3
 v3:=Tryz.zeroValue3
 t4:=Tryz.underlying4
 a4:=Tryz.isAgg4
 z4:=Tryz.sizeOf4
 v4:=Tryz.zeroValue4
 t5:=Tryz.underlying5
 a5:=Tryz.isAgg5
 z5:=Tryz.sizeOf5
 v5:=Tryz.zeroValue5
 t9:=Tryz.underlying9
 a9:=Tryz.isAgg9
 z9:=Tryz.sizeOf9
 v9:=Tryz.zeroValue9
 t22:=Tryz.underlying137
 a22:=Tryz.isAgg137
 z22:=Tryz.sizeOf137
 v22:=Tryz.zeroValue137
 t25:=Tryz.underlying297
 a25:=Tryz.isAgg297
 z25:=Tryz.sizeOf297
 v25:=Tryz.zeroValue297
 t39:=Tryz.underlying230
 a39:=Tryz.isAgg230
 z39:=Tryz.sizeOf230
 v39:=Tryz.zeroValue230
 t45:=Tryz.underlying299
 a45:=Tryz.isAgg299
 z45:=Tryz.sizeOf299
 v45:=Tryz.zeroValue299
 t46:=Tryz.underlying300
 a46:=Tryz.isAgg300
 z46:=Tryz.sizeOf300
 v46:=Tryz.zeroValue300
 t50:=Tryz.underlying131
 a50:=Tryz.isAgg131
 z50:=Tryz.sizeOf131
 v50:=Tryz.zeroValue131
 t53:=Tryz.underlying306
 a53:=Tryz.isAgg306
 z53:=Tryz.sizeOf306
 v53:=Tryz.zeroValue306
 t55:=Tryz.underlying308
 a55:=Tryz.isAgg308
 z55:=Tryz.sizeOf308
 v55:=Tryz.zeroValue308
 t66:=Tryz.underlying353
 a66:=Tryz.isAgg353
 z66:=Tryz.sizeOf353
 v66:=Tryz.zeroValue353
 t70:=Tryz.underlying357
 a70:=Tryz.isAgg357
 z70:=Tryz.sizeOf357
 v70:=Tryz.zeroValue357
 t76:=Tryz.underlying377
 a76:=Tryz.isAgg377
 z76:=Tryz.sizeOf377
 v76:=Tryz.zeroValue377
 t77:=Tryz.underlying147
 a77:=Tryz.isAgg147
 z77:=Tryz.sizeOf147
 v77:=Tryz.zeroValue147 }
def Tryz.YM:Go.Shelf.Ren:=⟨fun|6=>77|15=>135|14=>134|28=>208|29=>209|20=>200|21=>201|22=>202|23=>203|24=>204|25=>205|26=>206|27=>207|46=>245|47=>246|48=>247|49=>248|50=>249|57=>272|n=>n,fun|22=>59|24=>38|25=>143|3=>3|39=>230|0=>0|53=>306|55=>308|4=>4|46=>300|45=>299|50=>131|5=>5|9=>9|66=>353|70=>357|76=>377|77=>147|n=>n,fun|n=>n⟩
theorem Tryz.YN:Go.Proofs.SlLaysF0.n6 Tryz.prog Tryz.YM:={
 mixed:=by kernel_rfl
 f6:=⟨Tryz.f77.name,by decide,Tryz.func77.trans (congrArg some (by kernel_rfl))⟩
 f14:=⟨Tryz.f134.name,by decide,Tryz.func134.trans (congrArg some (by kernel_rfl))⟩
 f15:=Tryz.func135.trans (congrArg some (by kernel_rfl))
 f20:=⟨Tryz.f200.name,by decide,Tryz.func200.trans (congrArg some (by kernel_rfl))⟩
 f21:=⟨Tryz.f201.name,by decide,Tryz.func201.trans (congrArg some (by kernel_rfl))⟩
 f22:=⟨Tryz.f202.name,by decide,Tryz.func202.trans (congrArg some (by kernel_rfl))⟩
 f23:=⟨Tryz.f203.name,by decide,Tryz.func203.trans (congrArg some (by kernel_rfl))⟩
 f24:=⟨Tryz.f204.name,by decide,Tryz.func204.trans (congrArg some (by kernel_rfl))⟩
 f25:=⟨Tryz.f205.name,by decide,Tryz.func205.trans (congrArg some (by kernel_rfl))⟩
 f26:=⟨Tryz.f206.name,by decide,Tryz.func206.trans (congrArg some (by kernel_rfl))⟩
 f27:=⟨Tryz.f207.name,by decide,Tryz.func207.trans (congrArg some (by kernel_rfl))⟩
 f28:=Tryz.func208.trans (congrArg some (by kernel_rfl))
 f29:=Tryz.func209.trans (congrArg some (by kernel_rfl))
 f46:=⟨Tryz.f245.name,by decide,Tryz.func245.trans (congrArg some (by kernel_rfl))⟩
 f47:=Tryz.func246.trans (congrArg some (by kernel_rfl))
 f48:=Tryz.func247.trans (congrArg some (by kernel_rfl))
 f49:=⟨Tryz.f248.name,by decide,Tryz.func248.trans (congrArg some (by kernel_rfl))⟩
 f50:=⟨Tryz.f249.name,by decide,Tryz.func249.trans (congrArg some (by kernel_rfl))⟩
 f57:=⟨Tryz.f272.name,by decide,Tryz.func272.trans (congrArg some (by kernel_rfl))⟩
 t0:=Tryz.underlying0
 a0:=Tryz.isAgg0
 z0:=Tryz.sizeOf0
 v0:=Tryz.zeroValue0
 t3:=Tryz.underlying3
 a3:=Tryz.isAgg3
 z3:=Tryz.sizeOf3
 v3:=Tryz.zeroValue3
 t4:=Tryz.underlying4
 a4:=Tryz.isAgg4
 z4:=Tryz.sizeOf4
 v4:=Tryz.zeroValue4
 t5:=Tryz.underlying5
 a5:=Tryz.isAgg5
 z5:=Tryz.sizeOf5
 v5:=Tryz.zeroValue5
 t9:=Tryz.underlying9
 a9:=Tryz.isAgg9
 z9:=Tryz.sizeOf9
 v9:=Tryz.zeroValue9
 t22:=Tryz.underlying59
 a22:=Tryz.isAgg59
 z22:=Tryz.sizeOf59
 v22:=Tryz.zeroValue59
 t25:=Tryz.underlying143
 a25:=Tryz.isAgg143
 z25:=Tryz.sizeOf143
 v25:=Tryz.zeroValue143
 t39:=Tryz.underlying230
 a39:=Tryz.isAgg230
 z39:=Tryz.sizeOf230
 v39:=Tryz.zeroValue230
 t45:=Tryz.underlying299
 a45:=Tryz.isAgg299
 z45:=Tryz.sizeOf299
 v45:=Tryz.zeroValue299
 t46:=Tryz.underlying300
 a46:=Tryz.isAgg300
 z46:=Tryz.sizeOf300
 v46:=Tryz.zeroValue300
 t50:=Tryz.underlying131
 a50:=Tryz.isAgg131
 z50:=Tryz.sizeOf131
 v50:=Tryz.zeroValue131
 t53:=Tryz.underlying306
 a53:=Tryz.isAgg306
 z53:=Tryz.sizeOf306
 v53:=Tryz.zeroValue306
 t55:=Tryz.underlying308
 a55:=Tryz.isAgg308
 z55:=Tryz.sizeOf308
 v55:=Tryz.zeroValue308
 t66:=Tryz.underlying353
 a66:=Tryz.isAgg353
 z66:=Tryz.sizeOf353
 v66:=Tryz.zeroValue353
 t70:=Tryz.underlying357
 a70:=Tryz.isAgg357
 z70:=Tryz.sizeOf357
 v70:=Tryz.zeroValue357
 t76:=Tryz.underlying377
 a76:=Tryz.isAgg377
 z76:=Tryz.sizeOf377
 v76:=Tryz.zeroValue377
 t77:=Tryz.underlying147
 a77:=Tryz.isAgg147
 z77:=Tryz.sizeOf147
 v77:=Tryz.zeroValue147 }
end Go.Proofs
/-
 The abstract fB,part Z2: the YO sort by a function that V1,at rows of elements of k cells.
-/
namespace Go.Abs
open Go Go.Sort Go.Proofs
variable {P:Program} {X:Nat->Prop} {g0:Gh} {h:ab} {w:World}
theorem av.CQ {c:Cx}:∀ {xs:List AV} {us:List Value},xs.length=us.length->(∀ (i:Nat) x u,xs[i]?=some x->us[i]?=some u->aa c x u)->av c xs us
 | [],[],_,_=>by simp [av]
 | x::xs,u::us,hl,h=>by simp only [av];exact ⟨u,us,rfl,h 0 x u rfl rfl,av.CQ (by simpa using hl) fun i x u h1 h2=>h (i+1) x u (by simpa using h1) (by simpa using h2)⟩
 | [],_::_,hl,_=>by simp at hl
 | _::_,[],hl,_=>by simp at hl
theorem FK {β:Type} {k:Nat}:∀ {L:List (List β)},(∀ x∈L,x.length=k)->L.flatten.length=L.length*k
 | [],_=>by simp
 | x::L,h=>by rw [List.flatten_cons,List.length_append,FK (fun y hy=>h y (by simp [hy])),h x (by simp),List.length_cons,Nat.add_mul];omega
theorem FL {β:Type} {k:Nat} (hk:0<k):∀ {L:List (List β)} {i j:Nat} {x:List β},(∀ x∈L,x.length=k)->L[i]?=some x->j<k->L.flatten[i*k+j]?=x[j]?
 | [],i,j,x,_,hx,_=>by simp at hx
 | y::L,0,j,x,h,hx,hj=>by simp at hx;subst hx;have:=h y (by simp);rw [List.flatten_cons,Nat.zero_mul,Nat.zero_add,List.getElem?_append_left (by omega)]
 | y::L,i+1,j,x,h,hx,hj=>by
   have hy:=h y (by simp);have e:(i+1)*k+j=y.length+(i*k+j):=by rw [hy,Nat.add_mul];omega
   rw [List.flatten_cons,e,List.getElem?_append_right (by omega),Nat.add_sub_cancel_left];exact FL hk (fun z hz=>h z (by simp [hz])) (by simpa using hx) hj
theorem FM {t n k:Nat} (h:t<n*k):t / k<n/\t % k<k/\t=t / k*k+t % k:=by
 have k0:0<k:=by rcases Nat.eq_zero_or_pos k with h0|h0;subst h0;simp at h;exact h0
 refine ⟨(Nat.div_lt_iff_lt_mul k0).2 h,Nat.mod_lt _ k0,?_⟩;have:=Nat.div_add_mod t k;rw [Nat.mul_comm] at this;omega
theorem YP {l1 l2:ab} {b:Nat} {cs l:List AV} {us:List Value} {w':World} {p:Addr} {cc ej:Array Value} {t:TypeId} (hc:CW X g0 (l1++(b,.vec cs)::l2) w)
  (h1:g0.pl b=some p) (h4:w.heap[p.block]?=some (.cells cc t (0,0))) (hlen:l.length=cs.length)
  (e7:w'.os=w.os) (e8:w'.tape=w.tape/\w.drawn<=w'.drawn) (e9:w'.output=w.output) (e6:w.heap.size<=w'.heap.size) (e5:∀ aS,aS<w.heap.size->aS≠p.block->w'.heap[aS]?=w.heap[aS]?)
  (e1:w'.heap[p.block]?=some (.cells ej t (0,0))) (e2:ej.size=cc.size) (e4:∀ (j:Nat) u,us[j]?=some u->ej[p.off+j]?=some u)
  (ba:av ⟨g0,live X (l1++(b,.vec cs)::l2),w⟩ l us) (ho:∀ u∈us,u.oneCell'=true) :
  CW X g0 (l1++(b,.vec l)::l2) w'/\Step X g0 (l1++(b,.vec cs)::l2) w g0 (l1++(b,.vec l)::l2) w':=by
 have jm:=hc.obj b (.vec cs) (by simp);obtain ⟨p',Ir,t0,a1,h2,h3,a4,h5,h6⟩:=jm;simp only at a1 h3 a4;rw [h1] at a1;cases a1
 rw [h4] at a4;cases a4
 have ke:=ba.length;have im:b∈keys (l1++(b,.vec cs)::l2):=by rw [iQ];exact .inl rfl
 have aA:Step X g0 (l1++(b,.vec cs)::l2) w g0 (l1++(b,.vec l)::l2) w':=by
  refine ⟨e7,e8,e9,e6,fun _ _ e=>e,fun _ _ _ e _=>e,fun _ _ _ e _=>e,fun _ _ e=>e,?_,?_,?_⟩
  ·intro aS hb hn;have aI:aS≠p.block:=fun e=>hn b 0 (e ▸ h3) im;refine ⟨e5 aS hb aI,fun k s hk hm=>hn k s hk ?_⟩;rw [iQ] at hm ⊢;exact hm
  ·intro aS k s hk hm dd tt ff eE;by_cases e:aS=p.block
   ·subst e;rw [h3] at hk;cases hk
    rw [h4] at eE;cases eE
    exact ⟨ej,e1,e2,fun o ho=>by omega⟩
   exact ⟨dd,(e5 aS (hc.own _ _ _ hk) e).trans eE,rfl,fun _ _=>rfl⟩
  intro aS k s hk _ k' s' bk _;rw [hk] at bk;cases bk;exact Nat.le_refl _
 refine ⟨?_,aA⟩;refine hc.replace aA (fun aS k s hk=>by have:=hc.own _ _ _ hk;omega) (.inl rfl) (fun k hk=>.inr hk) (fun aS s k hk=>.inr ⟨aS,s,hk⟩) ?_ ?_
 ·intro aS k s hk hm
  have aI:aS≠p.block:=by
   intro e;rw [e,h3] at hk;cases hk
   exact hc.sj hm
  exact ⟨e5 aS (hc.own _ _ _ hk) aI,rfl⟩
 refine ⟨p,ej,t,h1,h2,h3,e1,by omega,?_⟩;intro i x hx;obtain ⟨u,hu,hr⟩:=ba.get _ _ hx;exact ⟨u,e4 i u hu,ho u (List.mem_of_getElem? hu),aa.mono (Step.le aA) _ _ hr⟩
def yF (P:Program) (f g k:Nat):Prop:=∀ (α:Type) (_:Inhabited α) (enc:α->List Value) (cf:α->α->Int) (aS off cap:Nat) (d:Array α) (w:World),
 (∀ x,(enc x).length=k)->(∀ x,∀ v∈enc x,v.oneCell'=true)->SWO (ltOf cf)->CmpLays P g #[] enc k cf aS off d.size w->HoldsK enc k w aS off d->aS<w.heap.size->d.size<4611686018427387904 ->
 Calls P f #[.slice (some ⟨aS,off,none⟩) d.size cap,.func (.func g) #[] #[]] w fun e w'=>e=.returned (.tuple #[])/\∃ d' n os,PermIn 0 d.size d d'/\SortedIn (ltOf cf) 0 d.size d'/\w'=sortWorldK enc k w aS off n d' os
theorem YQ {w w':World} (h1:w'.os=w.os) (h2:w'.tape=w.tape/\w.drawn<=w'.drawn) (h3:w'.output=w.output) (h4:w.heap.size<=w'.heap.size) (h5:∀ b,b<w.heap.size->w'.heap[b]?=w.heap[b]?) :
  ∃ q YR,w'=grow (w.drewN q) YR:=by
 refine ⟨w'.drawn - w.drawn,w'.heap.extract w.heap.size w'.heap.size,?_⟩;obtain ⟨hp,tp,dr,os,out⟩:=w';simp only at h1 h2 h3 h4 h5;obtain ⟨h2,h6⟩:=h2;subst h1 h2 h3;have e1:w.drawn+(dr - w.drawn)=dr:=by omega
 have e2:hp=w.heap++hp.extract w.heap.size hp.size:=by
  refine Array.ext_getElem? fun i=>?_;by_cases hi:i<w.heap.size
  ·rw [Array.getElem?_append_left hi];exact h5 i hi
  rw [Array.getElem?_append_right (by omega),Array.getElem?_extract];by_cases hj:i<hp.size
  ·rw [if_pos (by omega)];congr 1;omega
  rw [if_neg (by omega),Array.getElem?_eq_none (by omega)]
 unfold grow World.drewN;simp only;rw [<- e2,e1]
section
variable {f g k:Nat}
theorem YS (iv:0<k) (hf:sW P f) (YT:sW P g) (hs:yF P f g k) (cmp:List AV->List AV->Int) (xs:List (List AV)) (Db:∀ x∈xs,x.length=k) (aI:xs≠[]) (iS:xs.length<=4294967296)
  (yG:∀ x∈xs,∀ y∈xs,ae P g [.agg x,.agg y] [] (.int .i64 (cmp x y)))
  (QO:∀ x∈xs,¬ cmp x x<0) (nw:∀ x∈xs,∀ y∈xs,∀ z∈xs,cmp x y<0->cmp y z<0->cmp x z<0) (YU:∀ x∈xs,∀ y∈xs,∀ z∈xs,¬ cmp x y<0->¬ cmp y z<0->¬ cmp x z<0)
  (b:Nat):ay P f [.aR b 0 xs.length k,.fn g []] [(b,.vec xs.flatten)] (fun v h'=>v=.aQ []/\∃ ys:List (List AV),h'=[(b,.vec ys.flatten)]/\ys.Perm xs/\ys.Pairwise fun x y=>¬ cmp y x<0):=by
 refine ⟨fun X g0 w us hc hr=>.inl ⟨hf,?_⟩⟩;simp only [av] at hr;obtain ⟨u,r,ba,hx,u2,r2,e2,ee,hr⟩:=hr;subst e2 hr;obtain ⟨p,cap,hp,iH,rfl,x2,x3,x4,x5,_⟩:=hx.AM (List.length_pos_iff.2 aI);simp only [aa] at ee;obtain ⟨YV,rfl,ee⟩:=ee;try simp only [av] at ee
 have YW:YV=#[]:=by rw [<- Array.toList_inj];simpa using ee
 subst YW;try simp only at hp x5
 obtain ⟨q,cc,t,h1,h2,h3,h4,h5,h6⟩:=hc.obj b _ (List.mem_singleton.2 rfl);simp only at h1 h3 h4;rw [hp] at h1;cases h1
 have eO:=FK Db;rw [eO] at h5;have hn:0<xs.length:=List.length_pos_iff.2 aI;obtain ⟨n,jj⟩:∃ n,xs.length=n:=⟨_,rfl⟩;rw [jj] at eO h5 hn iS x2 x3 ba;have aL:p.block<w.heap.size:=(Array.getElem?_eq_some_iff.1 h4).1
 let E:Fin n->List Value:=fun i=>(List.range k).map fun j=>cc[p.off+(i.val*k+j)]!
 have Aq:∀ i,(E i).length=k:=fun i=>by simp [E]
 have QP:∀ (i:Fin n) (j:Nat),j<k->(E i)[j]?=some (cc[p.off+(i.val*k+j)]!):=fun i j hj=>by simp [E,hj]
 have YX:∀ (i:Fin n),xs[i.val]?=some (xs[i.val]'(by have:=i.2;omega)):=fun i=>List.getElem?_eq_getElem (by have:=i.2;omega)
 let V:Fin n->List AV:=fun i=>xs[i.val]'(by have:=i.2;omega)
 have rl:∀ i,V i∈xs:=fun i=>List.getElem_mem _;have V2:∀ (i:Fin n) (j:Nat),j<k->i.val*k+j<n*k:=fun i j hj=>by have:(i.val+1)*k<=n*k:=Nat.mul_le_mul_right k i.2;rw [Nat.add_mul,Nat.one_mul] at this;omega
 have nc:∀ (i:Fin n) (j:Nat),j<k->∃ x,(V i)[j]?=some x/\cc[p.off+(i.val*k+j)]?=some (cc[p.off+(i.val*k+j)]!)/\(cc[p.off+(i.val*k+j)]!).oneCell'=true/\aa ⟨g0,live X [(b,.vec xs.flatten)],w⟩ x (cc[p.off+(i.val*k+j)]!):=fun i j hj=>by
  have hl:j<(V i).length:=by rw [Db _ (rl i)];exact hj
  have hg:=FL iv Db (YX i) hj;obtain ⟨u,a1,a2,a3⟩:=h6 (i.val*k+j) (V i)[j] (by rw [hg];exact List.getElem?_eq_getElem hl);have Ku:cc[p.off+(i.val*k+j)]! = u:=by have wm:=(Array.getElem?_eq_some_iff.1 a1).1;rw [getElem!_pos cc _ wm];exact (Array.getElem?_eq_some_iff.1 a1).2
  refine ⟨(V i)[j],List.getElem?_eq_getElem hl,?_,?_,?_⟩
  ·rw [Ku];exact a1
  ·rw [Ku];exact a2
  rw [Ku];exact a3
 have FN:∀ i,∀ v∈E i,v.oneCell'=true:=fun i v hv=>by obtain ⟨j,hj,rfl⟩:=List.mem_map.1 hv;obtain ⟨_,_,_,a3,_⟩:=nc i j (List.mem_range.1 hj);exact a3
 have QQ:∀ i,av ⟨g0,live X [(b,.vec xs.flatten)],w⟩ (V i) (E i):=fun i=>by
  refine av.CQ (by rw [Db _ (rl i),Aq]) fun j x u hx hu=>?_;have hj:j<k:=by have:=(List.getElem?_eq_some_iff.1 hu).1;rw [Aq] at this;exact this
  obtain ⟨x',b1,_,_,b4⟩:=nc i j hj;rw [QP i j hj] at hu;rw [hx] at b1;cases b1;cases hu
  exact b4
 let cf:Fin n->Fin n->Int:=fun i j=>cmp (V i) (V j)
 have hI:Inhabited (Fin n):=⟨⟨0,hn⟩⟩
 let d:Array (Fin n):=Array.ofFn fun i:Fin n=>i
 have vr:d.size=n:=(by simp [d]);have YY:∀ i (hi:i<n),d[i]! = ⟨i,hi⟩:=fun i hi=>by rw [getElem!_pos d i (by rw [vr];exact hi)];simp [d]
 have hH:HoldsK E k w p.block (p.off+0) d:=by
  intro t ht;rw [size_flatK,vr] at ht;obtain ⟨m1,m2,m3⟩:=FM ht;rw [get_flatK E k d t (by rw [vr];exact ht),YY _ m1,Nat.add_zero];refine ⟨?_,frozen_of_row w p.block _ cc _ h4⟩;rw [cell_of_row w p.block _ cc _ _ h4];obtain ⟨x,b1,b2,b3,b4⟩:=nc ⟨t / k,m1⟩ (t % k) m2;have wm:t % k<(E ⟨t / k,m1⟩).length:=by rw [Aq];exact m2
  show cc[p.off+t]?=some (id ((E ⟨t / k,m1⟩)[t % k]!));rw [getElem!_pos (E ⟨t / k,m1⟩) (t % k) wm];have:=QP ⟨t / k,m1⟩ (t % k) m2;rw [List.getElem?_eq_getElem wm] at this;rw [id,Option.some.inj this];simp only at b2;rw [<- m3] at b2 ⊢;exact b2
 -- any row of the YZ
 have QR:∀ (dk:Array (Fin n)) (m:Nat) (os:Array Obj),dk.size=n ->
   CW X g0 [(b,.vec (dk.toList.map V).flatten)] (sortWorldK E k w p.block (p.off+0) m dk os)/\Step X g0 [(b,.vec xs.flatten)] w g0 [(b,.vec (dk.toList.map V).flatten)] (sortWorldK E k w p.block (p.off+0) m dk os):=by
  intro dk m os mf;have QS:∀ x∈dk.toList.map V,x.length=k:=fun x hx=>by obtain ⟨i,_,rfl⟩:=List.mem_map.1 hx;exact Db _ (rl i)
  have QT:dk.toList.length=n:=(by simpa using mf);have QU:((dk.toList.map V).flatten).length=n*k:=(by rw [FK QS,List.length_map,QT]);have QV:∀ x∈dk.toList.map E,x.length=k:=fun x hx=>by obtain ⟨i,_,rfl⟩:=List.mem_map.1 hx;exact Aq i
  have Kv:((dk.toList.map E).flatten).length=n*k:=(by rw [FK QV,List.length_map,QT]);have Dc:(putRowK E k (Sort.ahead w m) p.block (p.off+0) dk).heap=w.heap.modify p.block (onCells (putCells id (p.off+0) (flatK E k dk))):=rfl;have QW:∀ i,i<n->dk.toList[i]?=some (dk[i]!):=fun i hi=>by rw [Array.getElem?_toList,Array.getElem?_eq_getElem (by omega),getElem!_pos dk i (by omega)]
  have Za:∀ t,t<n*k->((dk.toList.map V).flatten)[t]?=(V dk[t / k]!)[t % k]?:=fun t ht=>by obtain ⟨m1,m2,m3⟩:=FM ht;have:=FL (i:=t / k) (j:=t % k) (x:=V dk[t / k]!) iv QS (by rw [List.getElem?_map,QW _ m1];rfl) m2;rw [<- m3] at this;exact this
  have QX:∀ t,t<n*k->((dk.toList.map E).flatten)[t]?=(E dk[t / k]!)[t % k]?:=fun t ht=>by obtain ⟨m1,m2,m3⟩:=FM ht;have:=FL (i:=t / k) (j:=t % k) (x:=E dk[t / k]!) iv QV (by rw [List.getElem?_map,QW _ m1];rfl) m2;rw [<- m3] at this;exact this
  refine YP (l1:=[]) (l2:=[]) (l:=(dk.toList.map V).flatten) (us:=(dk.toList.map E).flatten) (w':=sortWorldK E k w p.block (p.off+0) m dk os) (ej:=putCells id (p.off+0) (flatK E k dk) cc)
   hc hp h4 (by rw [QU,eO]) rfl ⟨rfl,Nat.le_add_right _ _⟩ rfl (by
    have e0:(putRowK E k (Sort.ahead w m) p.block (p.off+0) dk).heap.size=w.heap.size:=by rw [Dc];simp
    unfold sortWorldK grow;simp only [Array.size_append];omega) (fun aS hb aI=>?_) ?_ (by simp [putCells]) (fun t u hu=>?_) (av.CQ (by rw [QU,Kv]) fun t x u hx hu=>?_) (fun u hu=>?_)
  ·unfold sortWorldK;rw [heap_grow_old _ _ (by rw [Dc];simpa using hb),Dc,Array.getElem?_modify,if_neg (Ne.symm aI)]
  ·unfold sortWorldK;rw [heap_grow_old _ _ (by rw [Dc];simpa using aL),Dc,Array.getElem?_modify,if_pos rfl,h4];rfl
  ·have ht:t<n*k:=by have:=(List.getElem?_eq_some_iff.1 hu).1;rw [Kv] at this;exact this
   rw [QX t ht] at hu;have wm:p.off+t<cc.size:=(by omega);simp only [putCells,Array.getElem?_mapIdx,Array.getElem?_eq_getElem wm,Option.map_some,Nat.add_zero,size_flatK,mf];rw [if_pos ⟨by omega,by omega⟩,show p.off+t - p.off=t from by omega,get_flatK E k dk t (by rw [mf];exact ht)];obtain ⟨m1,m2,m3⟩:=FM ht;have hl:t % k<(E dk[t / k]!).length:=by rw [Aq];exact m2
   rw [List.getElem?_eq_getElem hl] at hu;rw [getElem!_pos (E dk[t / k]!) (t % k) hl];exact hu
  ·have ht:t<n*k:=by have:=(List.getElem?_eq_some_iff.1 hu).1;rw [Kv] at this;exact this
   rw [QX t ht] at hu;rw [Za t ht] at hx;obtain ⟨u',a1,a2⟩:=(QQ dk[t / k]!).get _ _ hx;rw [hu] at a1;cases a1
   exact a2
  rw [List.mem_flatten] at hu;obtain ⟨l,hl,hu⟩:=hu;obtain ⟨i,_,rfl⟩:=List.mem_map.1 hl;exact FN i u hu
 have Zb:CmpLays P g #[] E k cf p.block (p.off+0) d.size w:=by
  intro m os dk mf x y;rw [vr] at mf;obtain ⟨c1,s1⟩:=QR dk m os mf;obtain ⟨c2,s2⟩:=c1.sub (h':=[]) (fun k o hm=>by cases hm) (by simp [keys]);have hq:=yG (V x) (rl x) (V y) (rl y)
  have gb:av ⟨g0,live X [],sortWorldK E k w p.block (p.off+0) m dk os⟩ [.agg (V x),.agg (V y)] [.agg (E x).toArray,.agg (E y).toArray]:=by
   have up:∀ i,av ⟨g0,live X [],sortWorldK E k w p.block (p.off+0) m dk os⟩ (V i) (E i):=fun i=>av.mono (Step.le (s1.trans hc.own s2)) _ _ (QQ i);simp only [av];refine ⟨_,_,rfl,?_,_,_,rfl,?_,rfl⟩
   ·rw [aa];exact ⟨_,rfl,fun u hu=>FN x u (by simpa using hu),by simpa using up x⟩
   rw [aa];exact ⟨_,rfl,fun u hu=>FN y u (by simpa using hu),by simpa using up y⟩
  refine (vG.calls YT (hq.1 X g0 _ #[.agg (E x).toArray,.agg (E y).toArray] c2 gb)).mono ?_;rintro e w' ⟨v,u,g',hh,rfl,⟨rfl,rfl⟩,Ac,hu,Dd⟩;rw [aa] at hu;rw [hu.1];exact ⟨rfl,YQ Dd.os Dd.xf Dd.output Dd.size fun b hb=>(Dd.pN b hb fun k s _ hk=>by cases hk).1⟩
 have Zc:SWO (ltOf cf):=by
  refine ⟨fun x=>?_,fun x y z a b=>?_,fun x y z a b=>?_⟩
  ·unfold ltOf;simpa using QO _ (rl x)
  ·unfold ltOf at a b ⊢;simp only [decide_eq_true_eq] at a b ⊢;exact nw _ (rl x) _ (rl y) _ (rl z) a b
  unfold ltOf at a b ⊢;simp only [decide_eq_false_iff_not] at a b ⊢;exact YU _ (rl x) _ (rl y) _ (rl z) a b
 have hu:us=#[.slice (some ⟨p.block,p.off+0,none⟩) d.size cap,.func (.func g) #[] #[]]:=by rw [<- Array.toList_inj,vr];simpa using ba
 subst hu;refine (hs (Fin n) hI E cf p.block (p.off+0) cap d w Aq FN Zc Zb hH aL (by rw [vr];omega)).mono ?_;rintro e w' ⟨rfl,d',m,os,Zd,Ze,rfl⟩;obtain ⟨uH,tT,yp⟩:=Zd;rw [vr] at uH;obtain ⟨c1,s1⟩:=QR d' m os uH;refine ⟨.aQ [],.tuple #[],g0,_,rfl,⟨rfl,d'.toList.map V,rfl,?_,?_⟩,c1,by rw [aa];exact ⟨#[],rfl,by simp [av]⟩,s1⟩
 ·have e1:d'.extract 0 d.size=d':=by
   have e0:d.size=d'.size:=(by omega);rw [e0];simp
  have e2:d.extract 0 d.size=d:=(by simp);rw [e1,e2] at yp
  have e3:d.toList.map V=xs:=by
   refine List.ext_getElem? fun i=>?_;by_cases hi:i<n
   ·rw [List.getElem?_map,Array.getElem?_toList,Array.getElem?_eq_getElem (by omega)];simp [d,V,hi]
   rw [List.getElem?_eq_none (by simp [vr];omega),List.getElem?_eq_none (by omega)]
  rw [<- e3];exact yp.map V
 rw [List.pairwise_map,List.pairwise_iff_getElem];intro i j hi hj nK;have dH:i<d'.size:=(by simpa using hi);have xu:j<d'.size:=(by simpa using hj);have:=Ze i j (Nat.zero_le _) nK (by rw [vr,<- uH];exact xu);unfold ltOf at this;simp only [decide_eq_false_iff_not] at this;rw [getElem!_pos d' i dH,getElem!_pos d' j xu] at this;simpa using this
end
end Go.Abs
/-
 The abstract fB,part Z3: the YZ law,out of the YO YH.
-/
namespace Go.Abs
open Go Go.Sort Go.Proofs Go.Shelf
theorem Kw {P:Program} {ρ:Ren} (L:SlLaysF0.n6 P ρ) (k g:Nat) (aE:∀ w,(isAgg (ρ.t 24)).run P w=.ok true w) (zE:∀ w,(Go.sizeOf (ρ.t 24)).run P w=.ok k w)
  (eg:∀ args w,(callFunc g args).run P w=.ok (.enter g args) w):yF P (ρ.f 6) g k:=fun _ _ enc cf aS off cap d w hk h1 hO yG hH hb hs=>
 AnyQ.slices_SortFunc L k aE zE enc hk h1 cf hO g #[] aS off cap d w eg yG hH hb hs
end Go.Abs
/-
 The QY,from the V3 V4 to the abstract fB: xd is read as plain data is there,and a call that answers true and leaves the pN memory alone keeps the statement.
-/
namespace Go.Proofs.YtbmcnieifibckaaGreat.Br
open Go Go.Abs Go.ChangeShapes Go.WideShapes Go.RowKit
inductive Sh (P:Program) (B:Nat):TypeId->List AV->Prop
 | bool {t:TypeId} {b:Bool}:P.underlying t=some .bool->Sh P B t [.bool b]
 | int {t:TypeId} {k:IntKind} {n:Int}:P.underlying t=some (.int k)->(Lit.int k n).wf=true->Sh P B t [.int k n]
 | str {t:TypeId} {s:List UInt8}:P.underlying t=some .string->s.length<=B->Sh P B t [.str s]
 | slice {t e:TypeId} {ys:List (List AV)}:P.underlying t=some (.slice e)->ys.length<=B->(∀ y∈ys,Sh P B e y)->Sh P B t [.sl (P.cellsOf e) none ys]
 | struct {t:TypeId} {fs:Array Field} {parts:List (List AV)}:P.underlying t=some (.struct fs)->parts.length=fs.toList.length ->
    (∀ (i:Nat) f p,fs.toList[i]?=some f->parts[i]?=some p->Sh P B f.type p)->Sh P B t parts.flatten
 | array {t e:TypeId} {n:Nat} {parts:List (List AV)}:P.underlying t=some (.array n e)->parts.length=n->(∀ p∈parts,Sh P B e p)->Sh P B t parts.flatten
def flat (P:Program):Nat->TypeId->Bool
 | 0,_=>false
 | n+1,t=>match P.underlying t with
   | some .bool=>true
   | some (.int _)=>true
   | some .string=>true
   | some (.slice e)=>flat P n e&&Nat.ble 1 (P.cellsOf e)
   | some (.struct fs)=>fs.toList.all fun f=>flat P n f.type
   | some (.array _ e)=>flat P n e
   | _=>false
def c0 (W:World):Cx:=⟨⟨fun _=>none,fun _=>none⟩,live (fun _=>False) [],W⟩
theorem Zf (W:World) (b o:Nat):(c0 W).fr b o:=by intro k s h;cases h
section
variable {H:Type} {enc:TypeId × Value->H} {P:Program} {W:World}
theorem Zg {α β:Type} {f:α->Option β}:∀ {l:List α} {r:List β},l.mapM f=some r->r.length=l.length/\∀ (i:Nat) a,l[i]?=some a->∃ b,f a=some b/\r[i]?=some b:=by
 intro l;induction l with
 | nil=>intro r h;simp at h;subst h;exact ⟨rfl,fun i a h=>by cases h⟩
 | cons x l ih=>
   intro r h;simp only [List.mapM_cons,Option.bind_eq_bind,Option.bind_eq_some_iff,Option.pure_def] at h;obtain ⟨b,hb,r',ti,h⟩:=h;cases h
   obtain ⟨h1,h2⟩:=ih ti;refine ⟨by simp [h1],fun i a ha=>?_⟩;cases i with
   | zero=>cases ha;exact ⟨b,hb,rfl⟩
   | succ i=>exact h2 i a (by simpa using ha)
theorem Kx (l:List (DataW H)) (d:DataW H) (h:d∈l):Rows.uptoBulk d<=Rows.uptoBulkAll l:=by
 induction l with
 | nil=>cases h
 | cons x r ih=>
   simp only [Rows.uptoBulkAll];cases List.mem_cons.1 h with
   | inl e=>subst e;omega
   | inr e=>have:=ih e;omega
theorem Zh (d:DataW H):1<=Rows.uptoBulk d:=by
 cases d with
 | lit l=>cases l<;>simp [Rows.uptoBulk]
 | _=>simp [Rows.uptoBulk]
theorem Zi (l:List (DataW H)):l.length<=Rows.uptoBulkAll l:=by
 induction l with
 | nil=>simp [Rows.uptoBulkAll]
 | cons x r ih=>have:=Zh x;simp only [Rows.uptoBulkAll,List.length_cons];omega
theorem QZ (a:Addr) (n:Nat):(a.add n).block=a.block:=by unfold Addr.add;split<;>rfl
theorem Ra (a:Addr) (n:Nat):(a.add n).off=a.off+n:=by
 unfold Addr.add;split
 ·rename_i h;subst h;rfl
 rfl
theorem Zj {a:Addr} {n:Nat} {u:Value} (h:W.cell? (a.add n)=some u):W.cell? ⟨a.block,a.off+n,none⟩=some u:=by
 unfold World.cell? at h ⊢;rw [QZ,Ra] at h;split at h
 ·rename_i hb;simp only [hb];split at h
  ·cases h
  simpa using h
 cases h
theorem Rb {a:Addr} {n:Nat} {us:List Value} {xs:List AV} (h:W.cells? 0 a n=some us) (hr:av (c0 W) xs us) (h1:∀ u∈us,u.oneCell'=true) :
  us.length=n/\(0<n->a.spot=none)/\bz (c0 W) xs a.block a.off:=by
 unfold World.cells? at h;rw [if_pos (Nat.zero_le _)] at h;obtain ⟨hl,hg⟩:=Zg h;simp at hl;refine ⟨hl,fun hn=>?_,?_⟩
 ·obtain ⟨u,hu,_⟩:=hg 0 0 (by simp [hn]);unfold World.cell? at hu;split at hu
  ·split at hu
   ·cases hu
   rename_i hs;simpa [Addr.add] using hs
  cases hu
 have key:∀ (xs:List AV) (us:List Value) (o:Nat),av (c0 W) xs us->(∀ u∈us,u.oneCell'=true)->(∀ (i:Nat) u,us[i]?=some u->W.cell? ⟨a.block,a.off+(o+i),none⟩=some u)->bz (c0 W) xs a.block (a.off+o):=by
  intro xs;induction xs with
  | nil=>intro us o _ _ _;simp [bz]
  | cons x xs ih=>
    intro us o hr h1 hc;simp only [av] at hr;obtain ⟨u,r,rfl,hu,hr⟩:=hr;simp only [bz];refine ⟨⟨u,hc 0 u rfl,h1 u (by simp),Zf W _ _,hu⟩,?_⟩
    have:=ih r (o+1) hr (fun u hu=>h1 u (by simp [hu])) (fun i u hi=>by
     have:=hc (i+1) u (by simpa using hi);rwa [show o+(i+1)=o+1+i from by omega] at this)
    rwa [show a.off+o+1=a.off+(o+1) from rfl]
 have:=key xs us 0 hr h1 (fun i u hi=>by
  have aL:=(List.getElem?_eq_some_iff.1 hi).1;obtain ⟨u',dj,dH⟩:=hg i i (List.getElem?_range (by omega));rw [hi] at dH;cases dH
  rw [show a.off+(0+i)=a.off+i from by omega];exact Zj dj)
 simpa using this
theorem Rc {k:IntKind} {n:Int} (h:(Lit.int k n).wf=true):k.has n:=by simp only [Lit.wf,Bool.and_eq_true,decide_eq_true_eq] at h;simpa [IntKind.has] using h
theorem Zk (K:Kids P (·<P.types.size)) {t:TypeId} {fs:Array Field} (ht:t<P.types.size) (hu:P.underlying t=some (.struct fs)) {cs:List Value} (hl:cs.length=P.cellsOf t) :
  (fs.toList.map fun f=>(cs.drop f.offset).take (P.cellsOf f.type)).flatten=cs:=by
 obtain ⟨_,h2,h3⟩:=K.struct ht hu
 have key:∀ (l:List Field) (o:Nat),(∀ (j:Nat) f,l[j]?=some f->f.offset=o+((l.take j).map fun f=>P.cellsOf f.type).sum)->(l.map fun f:Field=>(cs.drop f.offset).take (P.cellsOf f.type)).flatten=(cs.drop o).take ((l.map fun f=>P.cellsOf f.type).sum):=by
  intro l;induction l with
  | nil=>intro o _;simp
  | cons f l ih=>
    intro o h;have h0:=h 0 f rfl;simp at h0;simp only [List.map_cons,List.flatten_cons,List.sum_cons]
    rw [ih (o+P.cellsOf f.type) (fun j g hj=>by
     have:=h (j+1) g (by simpa using hj);simp only [List.take_succ_cons,List.map_cons,List.sum_cons] at this;omega),h0,List.take_add,List.drop_drop]
 rw [key fs.toList 0 (fun j f hj=>by simpa using h3 j f hj),<- h2,<- hl];simp
theorem FO (K:Kids P (·<P.types.size)) {B:Nat} (hB:B<=aq):∀ (m n:Nat) (t:TypeId) (cs:List Value) (x:DataW H × List MemPlace),flat P m t=true->t<P.types.size ->
  DataW.trod enc P W 0 (fun _=>true) true n t cs=some x->Rows.uptoBulk x.1<=B->∃ xs,av (c0 W) xs cs/\Sh P B t xs/\∀ u∈cs,u.oneCell'=true
 | 0,n,t,cs,x,hf,_,_,_=>by cases hf
 | m+1,n,t,cs,x,hf,aL,h,hb=>by
   unfold flat at hf;split at hf
   ·rename_i hu;obtain ⟨b,rfl,rfl⟩:=DataW.trod_bool hu h;exact ⟨[.bool b],by simp [av,aa],.bool hu,by simp [Value.oneCell']⟩
   ·rename_i k hu;obtain ⟨n,rfl,rfl,hw⟩:=DataW.trod_int hu h;exact ⟨[.int k n],by simp [av,aa,Rc hw],.int hu hw,by simp [Value.oneCell']⟩
   ·rename_i hu;obtain ⟨s,rfl,rfl,hm⟩:=DataW.trod_string hu h;have fX:s.data.toList.length<=B:=by simp [Rows.uptoBulk] at hb;simp;omega
    exact ⟨[.str s.data.toList],by simp only [av,aa];exact ⟨_,_,rfl,⟨s,rfl,rfl,by omega⟩,rfl⟩,.str hu fX,by simp [Value.oneCell']⟩
   ·rename_i e hu;simp only [Bool.and_eq_true] at hf;have hk:0<P.cellsOf e:=Nat.le_of_ble_eq_true hf.2;have he:e<P.types.size:=K.slice aL hu;rcases DataW.trod_slice hu h with ⟨rfl,rfl⟩|⟨a,len,cap,elems,rest,n',rfl,rfl,rfl,_,uF,gl,jf,pf,_,_⟩
    ·refine ⟨[.sl (P.cellsOf e) none []],?_,.slice hu (Nat.zero_le _) (by simp),by simp [Value.oneCell']⟩;simp only [av];exact ⟨_,_,rfl,ag.nil hk _ _ (by simp [aa]),rfl⟩
    have yH:elems.length<=B/\∀ y∈elems,Rows.uptoBulk y.1<=B:=by simp only [Rows.uptoBulk] at hb;have h1:=Zi (elems.map (·.1));simp at h1;refine ⟨by omega,fun y hy=>?_⟩;have:=Kx (elems.map (·.1)) y.1 (List.mem_map.2 ⟨y,hy,rfl⟩);omega
    have each:∀ i,i<len->∃ (xs:List AV) (us:List Value),W.cells? 0 (a.add (i*P.cellsOf e)) (P.cellsOf e)=some us/\av (c0 W) xs us/\Sh P B e xs/\∀ u∈us,u.oneCell'=true:=by intro i hi;have hx:=pf i hi;have DN:i<elems.length:=(by omega);rw [List.getElem?_eq_getElem DN] at hx;simp only [Option.bind_eq_some_iff] at hx;obtain ⟨us,ba,nw⟩:=hx;obtain ⟨xs,h1,h2,h3⟩:=FO K hB m n' e us _ hf.1 he nw (yH.2 _ (List.getElem_mem DN));exact ⟨xs,us,ba,h1,h2,h3⟩
    have build:∀ j i,i+j=len->∃ ys:List (List AV),ys.length=j/\(∀ y∈ys,Sh P B e y)/\cm (c0 W) (P.cellsOf e) ys a.block (a.off+i*P.cellsOf e):=by
     intro j;induction j with
     | zero=>intro i _;exact ⟨[],rfl,by simp,by simp [cm]⟩
     | succ j ih=>
       intro i nK;obtain ⟨xs,us,ba,h1,h2,h3⟩:=each i (by omega);obtain ⟨hn,iH,hr⟩:=Rb ba h1 h3;obtain ⟨ys,FP,yI,Re⟩:=ih (i+1) (by omega);refine ⟨xs::ys,by simp [FP],by intro y hy;cases List.mem_cons.1 hy with|inl e=>subst e;exact h2|inr e=>exact yI y e,?_⟩;simp only [cm];refine ⟨⟨by rw [<- h1.length];exact hn,by rw [QZ,Ra] at hr;exact hr⟩,?_⟩;rwa [show a.off+i*P.cellsOf e+P.cellsOf e=a.off+(i+1)*P.cellsOf e from by rw [Nat.succ_mul];omega]
    obtain ⟨ys,FP,yI,Re⟩:=build len 0 (by omega);refine ⟨[.sl (P.cellsOf e) none ys],?_,.slice hu (by omega) yI,by simp [Value.oneCell']⟩;simp only [av,aa];refine ⟨_,_,rfl,⟨some a,cap,by rw [FP],by omega,by omega,hk,by simp,?_,?_,by simp⟩,rfl⟩
    ·rintro a' ⟨⟩ aI
     have:0<len:=by
      cases ys with
      | nil=>exact absurd rfl aI
      | cons _ _=>simp at FP;omega
     obtain ⟨xs,us,ba,h1,h2,h3⟩:=each 0 this;have:=(Rb ba h1 h3).2.1 hk;simpa [Addr.add] using this
    rintro a' ⟨⟩;simpa using Re
   ·rename_i fs hu;obtain ⟨xs,n',rfl,rfl,hl,hlen,hg⟩:=DataW.trod_struct hu h;have yH:∀ y∈xs,Rows.uptoBulk y.1<=B:=by simp only [Rows.uptoBulk] at hb;intro y hy;have:=Kx (xs.map (·.1)) y.1 (List.mem_map.2 ⟨y,hy,rfl⟩);omega
    obtain ⟨k1,k2,k3⟩:=K.struct aL hu
    have each:∀ (i:Nat) (f:Field),fs.toList[i]?=some f->∃ p,av (c0 W) p ((cs.drop f.offset).take (P.cellsOf f.type))/\Sh P B f.type p/\∀ u∈(cs.drop f.offset).take (P.cellsOf f.type),u.oneCell'=true:=by
     intro i f FQ;have nI:i<xs.length:=by have:=(List.getElem?_eq_some_iff.1 FQ).1;simp at this;omega
     have hx:=hg i f (by simpa using FQ);rw [List.getElem?_eq_getElem nI] at hx;exact FO K hB m n' f.type _ _ (List.all_eq_true.1 hf f (List.mem_of_getElem? FQ)) (k1 f (List.mem_of_getElem? FQ)) hx (yH _ (List.getElem_mem nI))
    have build:∀ (l:List Field) ,(∀ f∈l,∃ p,av (c0 W) p ((cs.drop f.offset).take (P.cellsOf f.type))/\Sh P B f.type p/\∀ u∈(cs.drop f.offset).take (P.cellsOf f.type),u.oneCell'=true) ->
      ∃ parts:List (List AV),parts.length=l.length/\(∀ (i:Nat) f p,l[i]?=some f->parts[i]?=some p->Sh P B f.type p)/\av (c0 W) parts.flatten (l.map fun f:Field=>(cs.drop f.offset).take (P.cellsOf f.type)).flatten /\
       ∀ u∈(l.map fun f:Field=>(cs.drop f.offset).take (P.cellsOf f.type)).flatten,u.oneCell'=true:=by
     intro l;induction l with
     | nil=>intro _;exact ⟨[],rfl,by simp,by simp [av],by simp⟩
     | cons f l ih=>
       intro h;obtain ⟨p,h1,h2,h3⟩:=h f (by simp);obtain ⟨parts,g1,g2,g3,g4⟩:=ih (fun f hf=>h f (by simp [hf]));refine ⟨p::parts,by simp [g1],?_,?_,?_⟩
       ·intro i f' p' hi hp;cases i with
        | zero=>cases hi;cases hp;exact h2
        | succ i=>exact g2 i f' p' (by simpa using hi) (by simpa using hp)
       ·simp only [List.map_cons,List.flatten_cons];exact av.append h1 g3
       intro u hu;simp only [List.map_cons,List.flatten_cons,List.mem_append] at hu;exact hu.elim (h3 u) (g4 u)
    obtain ⟨parts,g1,g2,g3,g4⟩:=build fs.toList (fun f hf=>by
     obtain ⟨i,hi⟩:=List.mem_iff_getElem?.1 hf;exact each i f hi)
    rw [Zk K aL hu hl] at g3 g4;exact ⟨parts.flatten,g3,.struct hu g1 g2,g4⟩
   ·rename_i N e hu;obtain ⟨xs,n',rfl,rfl,hl,hlen,hg⟩:=DataW.trod_array hu h;obtain ⟨k1,k2⟩:=K.array aL hu;have yH:∀ y∈xs,Rows.uptoBulk y.1<=B:=by simp only [Rows.uptoBulk] at hb;intro y hy;have:=Kx (xs.map (·.1)) y.1 (List.mem_map.2 ⟨y,hy,rfl⟩);omega
    have each:∀ i,i<N->∃ p,av (c0 W) p ((cs.drop (i*P.cellsOf e)).take (P.cellsOf e))/\Sh P B e p/\∀ u∈(cs.drop (i*P.cellsOf e)).take (P.cellsOf e),u.oneCell'=true:=by intro i hi;have nI:i<xs.length:=(by omega);have hx:=hg i hi;rw [List.getElem?_eq_getElem nI] at hx;exact FO K hB m n' e _ _ hf k1 hx (yH _ (List.getElem_mem nI))
    have build:∀ j i,i+j=N->∃ parts:List (List AV),parts.length=j/\(∀ p∈parts,Sh P B e p)/\av (c0 W) parts.flatten (cs.drop (i*P.cellsOf e))/\∀ u∈cs.drop (i*P.cellsOf e),u.oneCell'=true:=by
     intro j;induction j with
     | zero=>
       intro i hi;have h0:cs.drop (i*P.cellsOf e)=[]:=List.drop_eq_nil_of_le (by rw [hl,k2,show i=N by omega];exact Nat.le_refl _);rw [h0];exact ⟨[],rfl,by simp,by simp [av],by simp⟩
     | succ j ih=>
       intro i hi;obtain ⟨p,h1,h2,h3⟩:=each i (by omega);obtain ⟨parts,g1,g2,g3,g4⟩:=ih (i+1) (by omega);have uJ:cs.drop (i*P.cellsOf e)=(cs.drop (i*P.cellsOf e)).take (P.cellsOf e)++cs.drop ((i+1)*P.cellsOf e):=(by rw [Nat.succ_mul,<- List.drop_drop,List.take_append_drop]);rw [uJ];refine ⟨p::parts,by simp [g1],?_,?_,?_⟩
       ·intro y hy;rcases List.mem_cons.1 hy with rfl|hy
        ·exact h2
        exact g2 y hy
       ·simp only [List.flatten_cons];exact av.append h1 g3
       intro u hu;exact (List.mem_append.1 hu).elim (h3 u) (g4 u)
    obtain ⟨parts,g1,g2,g3,g4⟩:=build N 0 (by omega);rw [Nat.zero_mul,List.drop_zero] at g3 g4;exact ⟨parts.flatten,g3,.array hu g1 g2,g4⟩
   cases hf
def vg (P:Program) (B:Nat) (t:TypeId) (x:AV):Prop:=∃ xs,Sh P B t xs/\match P.underlying t with
 | some (.struct _)=>x=.agg xs
 | some (.array _ _)=>x=.agg xs
 | _=>xs=[x]
def De (P:Program) (B:Nat):List TypeId->List AV->Prop
 | [],[]=>True
 | t::ts,x::xs=>vg P B t x/\De P B ts xs
 | _,_=>False
theorem Zl (K:Kids P (·<P.types.size)) {B:Nat} (hB:B<=aq) {m:Nat} {t:TypeId} {v:Value} {d:DataW H} {ps:List MemPlace} {base:Nat} (hf:flat P m t=true) (aL:t<P.types.size)
  (bf:Value.okWide P W .any base t v) (h:DataW.Trod enc P W 0 (fun _=>true) true t v d ps) (hb:Rows.uptoBulk d<=B):∃ x,aa (c0 W) x v/\vg P B t x:=by
 obtain ⟨n,h⟩:=h;obtain ⟨xs,h1,h2,h3⟩:=FO K hB m n t _ _ hf aL h hb
 have one:∀ x,xs=[x]->(∀ cs,v≠.agg cs)->(∀ fs,P.underlying t≠some (.struct fs))/\(∀ n e,P.underlying t≠some (.array n e))->∃ x,aa (c0 W) x v/\vg P B t x:=by
  rintro x rfl aI Ar;have hv:v.cells.toList=[v]:=by cases v<;>first|rfl|exact absurd rfl (aI _)
  rw [hv] at h1;simp only [av] at h1;obtain ⟨u,r,hu,hx,rfl⟩:=h1;cases hu
  refine ⟨x,hx,[x],h2,?_⟩;split
  ·rename_i fs Ky;exact absurd Ky (Ar.1 fs)
  ·rename_i n e Ky;exact absurd Ky (Ar.2 n e)
  rfl
 unfold Value.okWide at bf;cases h2 with
 | bool hu=>
   rw [hu] at bf;refine one _ rfl (fun cs hv=>?_) (by rw [hu];simp);subst hv;simp [Cell.okWide,hu,Cell.ok] at bf
 | int hu hw=>
   rw [hu] at bf;refine one _ rfl (fun cs hv=>?_) (by rw [hu];simp);subst hv;simp [Cell.okWide,hu,Cell.ok] at bf
 | str hu hl=>
   rw [hu] at bf;refine one _ rfl (fun cs hv=>?_) (by rw [hu];simp);subst hv;simp [Cell.okWide,hu,Cell.ok] at bf
 | slice hu hl hy=>
   rw [hu] at bf;refine one _ rfl (fun cs hv=>?_) (by rw [hu];simp);subst hv;simp [Cell.okWide,hu,Cell.ok] at bf
 | @struct _ fs parts hu hl hp=>
   rw [hu] at bf;obtain ⟨cs,rfl,ia,_⟩:=bf;refine ⟨.agg parts.flatten,?_,parts.flatten,.struct hu hl hp,by rw [hu]⟩;simp only [aa];exact ⟨cs,rfl,fun u hu=>h3 u (by simpa [Value.cells] using hu),h1⟩
 | @array _ e n parts hu hl hp=>
   rw [hu] at bf;obtain ⟨cs,rfl,ia,_⟩:=bf;refine ⟨.agg parts.flatten,?_,parts.flatten,.array hu hl hp,by rw [hu]⟩;simp only [aa];exact ⟨cs,rfl,fun u hu=>h3 u (by simpa [Value.cells] using hu),h1⟩
theorem Rf (K:Kids P (·<P.types.size)) {B:Nat} (hB:B<=aq) {m:Nat} {base:Nat}:∀ {ts:List TypeId} {vs:List Value} {ds:List (DataW H)} {ps:List MemPlace},(∀ t∈ts,flat P m t=true/\t<P.types.size) ->
  (∀ (j:Nat) t v,ts[j]?=some t->vs[j]?=some v->Value.okWide P W .any base t v)->DataW.TrodAll enc P W 0 (fun _=>true) true ts vs ds ps->Rows.uptoBulkAll ds<=B ->
  ∃ xs,av (c0 W) xs vs/\De P B ts xs
 | [],vs,ds,ps,_,_,h,_=>by obtain ⟨rfl,rfl,rfl⟩:=trodAll_nil h;exact ⟨[],by simp [av],trivial⟩
 | t::ts,vs,ds,ps,hf,bf,h,hb=>by obtain ⟨v,Kz,d,Rh,a,b,rfl,rfl,rfl,h1,h2⟩:=trodAll_cons h;simp only [Rows.uptoBulkAll] at hb;obtain ⟨x,hx,hs⟩:=Zl K hB (hf t (by simp)).1 (hf t (by simp)).2 (bf 0 t v rfl rfl) h1 (by omega);obtain ⟨xs,Ri,Zm⟩:=Rf K hB (fun t ht=>hf t (by simp [ht])) (fun j t v h1 h2=>bf (j+1) t v (by simpa using h1) (by simpa using h2)) h2 (by omega);exact ⟨x::xs,by simp only [av];exact ⟨v,Kz,rfl,hx,Ri⟩,hs,Zm⟩
theorem Rj {W':World} {sp:Nat->Bool} (K:Kids P (·<P.types.size)) (hz:∀ {t e:TypeId},t<P.types.size->P.underlying t=some (.slice e)->0<P.cellsOf e) :
  ∀ {ts:List TypeId} {vs:List Value} {ds:List (DataW H)} {ps:List MemPlace},(∀ t∈ts,t<P.types.size)->DataW.TrodAll enc P W 0 (fun _=>true) true ts vs ds ps->(∀ p∈ps,W.sameAt W' p)->(∀ p∈ps,sp p.block=true) ->
   DataW.TrodAll enc P W' 0 sp true ts vs ds ps
 | [],vs,ds,ps,_,h,_,_=>by obtain ⟨rfl,rfl,rfl⟩:=trodAll_nil h;exact trodAll_mk0
 | t::ts,vs,ds,ps,hT,h,hs,hp=>by
   obtain ⟨v,Kz,d,Rh,a,b,rfl,rfl,rfl,⟨n,h1⟩,h2⟩:=trodAll_cons h
   exact ⟨a,b,⟨n,DataW.trod_stays K hz (fun hh=>by cases hh) (hT t (by simp)) h1 (fun p hp=>hs p (by simp [hp])) (fun p hq=>hp p (by simp [hq]))⟩,
    Rj K hz (fun t ht=>hT t (by simp [ht])) h2 (fun p hp=>hs p (by simp [hp])) (fun p hq=>hp p (by simp [hq])),rfl⟩
theorem Rl:∀ {ts:List TypeId} {vs:List Value} {ds:List (DataW H)} {ps:List MemPlace},DataW.TrodAll enc P W 0 (fun _=>true) true ts vs ds ps->ds.length=ts.length
 | [],_,_,_,h=>by obtain ⟨rfl,rfl,_⟩:=trodAll_nil h;rfl
 | t::ts,_,_,_,h=>by obtain ⟨v,Kz,d,Rh,a,b,rfl,rfl,rfl,h1,h2⟩:=trodAll_cons h;simp [Rl h2]
theorem Zn (W:World):CW (fun _=>False) ⟨fun _=>none,fun _=>none⟩ [] W:=by
 refine ⟨by simp,⟨0,?_⟩,by simp [keys],by simp [keys],by simp⟩;rintro k (h|h|h|⟨b,s,h⟩)
 ·exact h.elim
 ·simp [keys] at h
 ·exact absurd rfl h
 cases h
theorem QY {f:FuncId} {fn:Func} {s:ChangeSpec} {m:Nat} {tb:TypeId} (K:Kids P (·<P.types.size)) (hz:∀ {t e:TypeId},t<P.types.size->P.underlying t=some (.slice e)->0<P.cellsOf e)
  (Rm:s.vars=[]) (KA:∀ ds:List (DataW H),ds.length=fn.params.toList.length->s.fn H ds={ results:=[.lit (.bool true)],args:=ds })
  (vM:fn.resultTypes=#[tb]) (Zo:P.underlying tb=some .bool) (Rn:∀ t∈fn.params.toList,flat P m t=true/\t<P.types.size)
  (cM:sW P f) (law:∀ xs,De P 1048576 fn.params.toList xs->ae P f xs [] (.bool true))
  {base:Nat} {args:Array Value} {ds gs:List (DataW H)} {before:List MemPlace}
  (KB:∀ (j:Nat) t v,fn.params[j]?=some t->args[j]?=some v->Value.okWide P W .any base t v)
  (hW:DataW.Whole enc P fn.params.toList s.vars false W args.toList ds gs before) (hk:Rows.uptoSmall H (ds++gs)=true) :
  Calls P f args W fun e W'=>∃ v,e=.returned v/\s.post enc P fn false true false false W args v W':=by
 have aL:=hW.lt;have Zp:=hW;rw [Rm] at hW;obtain ⟨p,q,hA,hV,CU,V5,dZ⟩:=hW
 obtain ⟨rfl,rfl⟩:gs=[]/\q=[]:=by
  cases gs with
  | nil=>simp only [DataW.TrodVars] at hV;exact ⟨rfl,hV⟩
  | cons _ _=>simp [DataW.TrodVars] at hV
 simp only [List.append_nil] at CU hk;subst CU;have yH:Rows.uptoBulkAll ds<=1048576:=of_decide_eq_true hk;obtain ⟨xs,cG,rS⟩:=Rf K (B:=1048576) (by unfold aq;omega) Rn (fun j t v h1 h2=>KB j t v (by simpa using h1) (by simpa using h2)) hA yH;have hlen:ds.length=fn.params.toList.length:=(Rl hA);refine (vG.calls cM ((law xs rS).calls (fun _=>False) ⟨fun _=>none,fun _=>none⟩ W args (Zn W) cG)).mono ?_;rintro e W' ⟨v,u,g',h',rfl,⟨rfl,rfl⟩,hc,hu,aA⟩;simp only [aa] at hu;subst hu;have hold:∀ b,b<W.heap.size->W'.heap[b]?=W.heap[b]?:=fun b hb=>(aA.pN b hb (fun k s h=>by cases h)).1
 have Zq:∀ p∈before,W.sameAt W' p:=by
  intro p hp;have:=aL p hp;cases p with
  | cell b off=>simp only [World.sameAt,World.cell?];rw [hold b this]
  | map b=>exact hold b this
 refine ⟨_,rfl,ds,[],before,[],before,[],Zp,?_,?_,?_,?_,fun h=>by cases h⟩
 ·rw [List.append_nil,KA ds hlen,vM];exact trodAll_mk1 (shut_bool Zo _)
 ·rw [List.append_nil,KA ds hlen];exact Rj K hz (fun t ht=>(Rn t ht).2) hA Zq (fun p hp=>by simpa using aL p hp)
 ·rw [Rm,List.append_nil,KA ds hlen];simp [DataW.TrodVars]
 refine ⟨aA.os,aA.output,fun i hi=>?_⟩;rw [hold i hi];cases hh:W.heap[i]? with
 | none=>simp
 | some o=>cases o<;>simp
end
end Go.Proofs.YtbmcnieifibckaaGreat.Br
set_option maxRecDepth 100000
set_option maxHeartbeats 2000000
namespace Go.Abs.Wall
open Go Go.Abs Go.Proofs
theorem mixed:Tryz.prog.follows .mixedOrders=true:=by decide
theorem within (n low high:Int):ae Tryz.prog 128 [.int .i64 n,.int .i64 low,.int .i64 high] [] (.bool (decide (low<=n)&&decide (n<=high))):=by refine sJ (fn:=Tryz.f128) (code:=(Tryz.f128.body.getD .skip)) (c:=⟨[0,1,2,6],[],[],[],[],[]⟩) rfl rfl rfl mixed (by simp [Tryz.f128]) fun X=>?_;(conv=>whnf);exact ⟨rfl,rfl⟩
theorem As (n low high:Int):ae Tryz.prog 150 [.int .i64 n,.int .i64 low,.int .i64 high] [] (.bool (decide (low<=n)&&decide (n<=high))):=by refine sJ (fn:=Tryz.f150) (code:=(Tryz.f150.body.getD .skip)) (c:=⟨[0,1,2,6],[],[],[],[],[]⟩) rfl rfl rfl mixed (by simp [Tryz.f150]) fun X=>?_;(conv=>whnf);exact ⟨rfl,rfl⟩
def c30:aw:=⟨[0,1,4,5,10,14,25],[],[],[],[(6,[0,1,2,3,4,5,6,7,8],[])],[]⟩
theorem Ha (a b:List Int) (ha:a.length<=aq) (hb:b.length<=aq):ae Tryz.prog 30 [.sl 1 none (ints a),.sl 1 none (ints b)] [] (.bool (decide (a=b))):=by
 refine sJ (fn:=Tryz.f30) (code:=(Tryz.f30.body.getD .skip)) (c:=c30) rfl rfl rfl mixed (by simp [Tryz.f30]) fun X=>?_;unfold aq at ha hb;(conv=>whnf);refine ⟨fun aI=>?_,fun aI=>?_⟩
 ·have aI:(!decide (((ints a).length:Int)=((ints b).length:Int)))=true:=aI;simp at aI;(conv=>whnf);refine ⟨congrArg AV.bool ?_,rfl⟩;symm;exact decide_eq_false (fun e=>aI (by rw [e]))
 have aI:(!decide (((ints a).length:Int)=((ints b).length:Int)))=false:=aI;simp at aI;(conv=>whnf);refine Fw (c:=c30) mixed [0,1,5] [] (fun m r h=>∃ i:Nat,r=[(0,[],.sl 1 none (ints a)),(1,[],.sl 1 none (ints b)),(5,[],.int .i64 i)]/\h=[]/\m=a.length - i/\i<=a.length/\∀ j,j<i->a[j]?=b[j]?) ?_ ?_
 ·(conv=>whnf);exact ⟨_,0,rfl,rfl,rfl,by omega,by intro j hj;omega⟩
 rintro m r h ⟨i,rfl,rfl,rfl,hi,hg⟩;(conv=>whnf);refine ⟨fun hb=>?_,fun hb=>?_⟩
 ·have hb:(i:Int)<((ints a).length:Int):=of_decide_eq_true hb;rw [dB] at hb;have h1:i<a.length:=(by omega);have h2:i<b.length:=(by omega);(conv=>whnf);refine ⟨rfl,?_⟩;(conv=>whnf);refine ⟨i,[.int .i64 a[i]],⟨rfl,PN (List.getElem?_eq_getElem h1)⟩,?_⟩;(conv=>whnf);refine ⟨i,[.int .i64 b[i]],⟨rfl,PN (List.getElem?_eq_getElem h2)⟩,?_⟩;(conv=>whnf);refine ⟨fun hc=>?_,fun hc=>?_⟩
  ·have hc:(!decide (a[i]=b[i]))=true:=hc;(conv=>whnf);refine ⟨congrArg AV.bool ?_,rfl⟩;symm;refine decide_eq_false (fun e=>?_);subst e;simp at hc
  have hc:(!decide (a[i]=b[i]))=false:=hc;simp at hc;(conv=>whnf);refine ⟨⟨by omega,by omega⟩,?_⟩;conv=>whnf
  exact ⟨a.length - (i+1),by omega,i+1,rfl,rfl,rfl,by omega,fun j hj=>by
   rcases Nat.lt_succ_iff_lt_or_eq.1 hj with h|rfl
   ·exact hg j h
   rw [List.getElem?_eq_getElem h1,List.getElem?_eq_getElem h2,hc]⟩
 have hb:decide ((i:Int)<((ints a).length:Int))=false:=hb;rw [dB] at hb;have hb:=of_decide_eq_false hb;(conv=>whnf);refine ⟨congrArg AV.bool ?_,rfl⟩;symm;refine decide_eq_true (List.ext_getElem? fun j=>?_);by_cases hj:j<i
 ·exact hg j hj
 rw [List.getElem?_eq_none (by omega),List.getElem?_eq_none (by omega)]
end Go.Abs.Wall
namespace Go.Abs.Wall
open Go Go.Abs Go.Proofs
theorem Zr {α:Type} {enc:α->List AV} {l:List α} {i:Nat} (h:i<l.length):(l.map enc)[i]?=some (enc l[i]):=by simp [List.getElem?_eq_getElem h]
def lS (y:UInt8):Bool:=decide (65<=y.toNat)&&decide (y.toNat<=90)
def small (y:UInt8):Bool:=decide (97<=y.toNat)&&decide (y.toNat<=122)
def digit (y:UInt8):Bool:=decide (48<=y.toNat)&&decide (y.toNat<=57)
def tZ (y:UInt8):Bool:=lS y||small y||digit y
def pF (s:List UInt8):Bool:=decide (1<=s.length)&&decide (s.length<=8)&&lS (s[0]?.getD 0)&&s.all tZ
def c180:aw:=⟨[0,2,3,4,22,26,54],[],[],[],[],[]⟩
theorem wU (a:Nat) (y:UInt8):decide ((a:Int)<=(y.toNat:Int))=decide (a<=y.toNat):=by rw [decide_eq_decide];omega
theorem wV (a:Nat) (y:UInt8):decide ((y.toNat:Int)<=(a:Int))=decide (y.toNat<=a):=by rw [decide_eq_decide];omega
theorem validCode (s:List UInt8) (hs:s.length<=aq):ae Tryz.prog 180 [.str s] [] (.bool (pF s)):=by
 refine sJ (fn:=Tryz.f180) (code:=(Tryz.f180.body.getD .skip)) (c:=c180) rfl rfl rfl mixed (by simp [Tryz.f180]) fun X=>?_;unfold aq at hs;have h0:¬ (s.length:Int)<1->((0:Int)=((0:Nat):Int)/\s[0]?=some (s[0]?.getD 0)):=by intro h;refine ⟨rfl,?_⟩;rw [List.getElem?_eq_getElem (show 0<s.length by omega)];rfl
 (conv=>whnf);refine ⟨0,s[0]?.getD 0,fun h1=>?_,?_⟩
 ·have h1:(decide ((s.length:Int)<1)||decide (8<(s.length:Int)))=false:=h1;simp only [Bool.or_eq_false_iff,decide_eq_false_iff_not] at h1;exact h0 h1.1
 (conv=>whnf);refine ⟨0,s[0]?.getD 0,fun h1=>?_,?_⟩
 ·have h1:(decide ((s.length:Int)<1)||decide (8<(s.length:Int))||decide (((s[0]?.getD 0).toNat:Int)<65))=false:=h1;simp only [Bool.or_eq_false_iff,decide_eq_false_iff_not] at h1;exact h0 h1.1.1
 (conv=>whnf);refine ⟨fun hc=>?_,fun hc=>?_⟩
 ·have hc:(decide ((s.length:Int)<1)||decide (8<(s.length:Int))||decide (((s[0]?.getD 0).toNat:Int)<65)||decide (90<((s[0]?.getD 0).toNat:Int)))=true:=hc;(conv=>whnf);refine ⟨congrArg AV.bool ?_,rfl⟩;symm;simp only [Bool.or_eq_true,decide_eq_true_eq] at hc;unfold pF lS;simp only [Bool.and_eq_false_iff,decide_eq_false_iff_not];omega
 have hc:(decide ((s.length:Int)<1)||decide (8<(s.length:Int))||decide (((s[0]?.getD 0).toNat:Int)<65)||decide (90<((s[0]?.getD 0).toNat:Int)))=false:=hc;simp only [Bool.or_eq_false_iff,decide_eq_false_iff_not] at hc;have lX:(decide (1<=s.length)&&decide (s.length<=8)&&lS (s[0]?.getD 0))=true:=by unfold lS;simp only [Bool.and_eq_true,decide_eq_true_eq];omega
 (conv=>whnf);refine Fw (c:=c180) mixed [0,3] [] (fun m r h=>∃ i:Nat,r=[(0,[],.str s),(3,[],.int .i64 i)]/\h=[]/\m=s.length - i/\i<=s.length/\∀ j y,j<i->s[j]?=some y->tZ y=true) ?_ ?_
 ·(conv=>whnf);exact ⟨_,0,rfl,rfl,rfl,by omega,by intro j y hj;omega⟩
 rintro m r h ⟨i,rfl,rfl,rfl,hi,hg⟩;(conv=>whnf);refine ⟨fun hb=>?_,fun hb=>?_⟩
 ·have hb:(i:Int)<(s.length:Int):=of_decide_eq_true hb;have aL:i<s.length:=(by omega);have hx:=List.getElem?_eq_getElem aL;(conv=>whnf);refine ⟨i,s[i],⟨rfl,hx⟩,?_⟩
  have e:((decide ((65:Int)<=(s[i].toNat:Int))&&decide ((s[i].toNat:Int)<=90))||(decide ((97:Int)<=(s[i].toNat:Int))&&decide ((s[i].toNat:Int)<=122)) ||
    (decide ((48:Int)<=(s[i].toNat:Int))&&decide ((s[i].toNat:Int)<=57)))=tZ s[i]:=by
   unfold tZ lS small digit;rw [<- wU,<- wU,<- wU,<- wV,<- wV,<- wV];rfl
  (conv=>whnf);refine ⟨fun hc=>?_,fun hc=>?_⟩
  ·have hc:(!((decide ((65:Int)<=(s[i].toNat:Int))&&decide ((s[i].toNat:Int)<=90))||(decide ((97:Int)<=(s[i].toNat:Int))&&decide ((s[i].toNat:Int)<=122)) ||
    (decide ((48:Int)<=(s[i].toNat:Int))&&decide ((s[i].toNat:Int)<=57))))=true:=hc
   rw [e] at hc;(conv=>whnf);refine ⟨congrArg AV.bool ?_,rfl⟩;symm;unfold pF;rw [Bool.and_eq_false_iff];right;rw [List.all_eq_false];exact ⟨s[i],List.getElem_mem aL,by simpa using hc⟩
  have hc:(!((decide ((65:Int)<=(s[i].toNat:Int))&&decide ((s[i].toNat:Int)<=90))||(decide ((97:Int)<=(s[i].toNat:Int))&&decide ((s[i].toNat:Int)<=122)) ||
   (decide ((48:Int)<=(s[i].toNat:Int))&&decide ((s[i].toNat:Int)<=57))))=false:=hc
  rw [e] at hc;(conv=>whnf);refine ⟨⟨by omega,by omega⟩,?_⟩;(conv=>whnf);refine ⟨s.length - (i+1),by omega,i+1,rfl,rfl,rfl,by omega,fun j y hj hy=>?_⟩;rcases Nat.lt_succ_iff_lt_or_eq.1 hj with h|rfl
  ·exact hg j y h hy
  rw [hx] at hy;cases hy;simpa using hc
 have hb:¬ (i:Int)<(s.length:Int):=of_decide_eq_false hb;(conv=>whnf);refine ⟨congrArg AV.bool ?_,rfl⟩;symm;unfold pF;rw [lX,Bool.true_and,List.all_eq_true];intro y hy;obtain ⟨j,hj,rfl⟩:=List.getElem_of_mem hy;exact hg j _ (by omega) (List.getElem?_eq_getElem hj)
end Go.Abs.Wall
namespace Go.Abs.Wall
open Go Go.Abs Go.Proofs
structure cV where
 kind:Int
 text:List UInt8
 fr:Int
 to:Int
def fK (v:cV):List AV:=[.int .i64 v.kind,.str v.text,.int .i64 v.fr,.int .i64 v.to]
def c262:aw:=⟨[0,1,2],[],[2],[],[],[]⟩
theorem of (v:cV):ae Tryz.prog 262 [.agg (fK v)] [] (.agg [.int .i64 v.kind,.str v.text]):=by refine sJ (fn:=Tryz.f262) (code:=(Tryz.f262.body.getD .skip)) (c:=c262) rfl rfl rfl mixed (by simp [Tryz.f262]) fun X=>?_;(conv=>whnf);intro b;(conv=>whnf);refine ⟨_,_,aK.here _,⟨by simp,rfl⟩,?_⟩;(conv=>whnf);exact ⟨rfl,rfl⟩
def mT (a b:cV):Bool:=(decide (a.kind=b.kind)&&(decide (a.text=b.text)&&true))&&decide (a.fr<=b.to)&&decide (b.fr<=a.to)
def c236:aw:=⟨[0,1,2,3,4],[],[],[],[(1,[0,1,2,3,4,5,6,7,8,9,10,11,12,13,14,15,16,17,18,19],[])],[]⟩
theorem meet (a b:cV):ae Tryz.prog 236 [.agg (fK a),.agg (fK b)] [] (.bool (mT a b)):=by refine sJ (fn:=Tryz.f236) (code:=(Tryz.f236.body.getD .skip)) (c:=c236) rfl rfl rfl mixed (by simp [Tryz.f236]) fun X=>?_;(conv=>whnf);refine ⟨rfl,?_⟩;(conv=>whnf);refine ⟨_,(of a).wide _,?_⟩;(conv=>whnf);refine ⟨_,(of b).wide _,?_⟩;(conv=>whnf);refine ⟨by decide +kernel,?_⟩;(conv=>whnf);exact ⟨rfl,rfl⟩
def c235:aw:=⟨[0,1,2,3],[],[],[],[],[]⟩
theorem Zs (v w:cV):ae Tryz.prog 235 [.agg (fK w),.au (fK v)] [] (.bool (mT v w)):=by refine sJ (fn:=Tryz.f235) (code:=(Tryz.f235.body.getD .skip)) (c:=c235) rfl rfl rfl mixed (by simp [Tryz.f235]) fun X=>?_;(conv=>whnf);refine ae.k0 (meet v w) ?_;(conv=>whnf);exact ⟨rfl,rfl⟩
def jK {α:Type} (p:α->Bool) (l:List α):Int:=
 match l.findIdx? p with
 | some i=>(i:Int)
 | none=>-1
theorem Ro {α:Type} {p:α->Bool} {l:List α} {i:Nat} (h:i<l.length) (hp:p l[i]=true) (hb:∀ j (hj:j<i),p (l[j]'(by omega))=false):jK p l=(i:Int):=by
 unfold jK;have:l.findIdx? p=some i:=by rw [List.findIdx?_eq_some_iff_getElem];exact ⟨h,hp,fun j hj=>by simp [hb j hj]⟩
 rw [this]
theorem Rp {α:Type} {p:α->Bool} {l:List α} (hb:∀ j (hj:j<l.length),p l[j]=false):jK p l = -1:=by
 unfold jK;have:l.findIdx? p=none:=by rw [List.findIdx?_eq_none_iff];intro x hx;obtain ⟨j,hj,rfl⟩:=List.getElem_of_mem hx;exact hb j hj
 rw [this]
def c261:aw:=⟨[0,1,4,5,7,8,9,16],[],[],[],[],[]⟩
theorem Zt (l:List cV) (hl:l.length<=aq) (f:FuncId) (bB:List AV) (p:cV->Bool) (hp:∀ w∈l,ae Tryz.prog f (.agg (fK w)::bB) [] (.bool (p w))) :
  ae Tryz.prog 261 [.sl 4 none (l.map fK),.fn f bB] [] (.int .i64 (jK p l)):=by
 refine sJ (fn:=Tryz.f261) (code:=(Tryz.f261.body.getD .skip)) (c:=c261) rfl rfl rfl mixed (by simp [Tryz.f261]) fun X=>?_;unfold aq at hl;(conv=>whnf);refine Fw (c:=c261) mixed [0,1,7,8] [] (fun m r h=>∃ i:Nat,r=[(0,[],.sl 4 none (l.map fK)),(1,[],.fn f bB),(7,[],.int .i64 (l.map fK).length),(8,[],.int .i64 i)]/\h=[]/\m=l.length - i/\i<=l.length/\∀ j (hj:j<i) (xu:j<l.length),p l[j]=false) ?_ ?_
 ·(conv=>whnf);exact ⟨_,0,rfl,rfl,rfl,by omega,by intro j hj;omega⟩
 rintro m r h ⟨i,rfl,rfl,rfl,hi,hg⟩;(conv=>whnf);refine ⟨fun hb=>?_,fun hb=>?_⟩
 ·have hb:(i:Int)<((l.map fK).length:Int):=of_decide_eq_true hb;rw [List.length_map] at hb;have aL:i<l.length:=(by omega);(conv=>whnf);refine ⟨i,fK l[i],⟨rfl,Zr aL⟩,?_⟩;(conv=>whnf);refine ae.k0 (hp l[i] (List.getElem_mem aL)) ?_;(conv=>whnf);refine ⟨fun hc=>?_,fun hc=>?_⟩
  ·have hc:p l[i]=true:=hc;(conv=>whnf);exact ⟨by rw [Ro aL hc (fun j hj=>hg j hj (by omega))],rfl⟩
  have hc:p l[i]=false:=hc;(conv=>whnf);refine ⟨⟨by omega,by omega⟩,?_⟩;(conv=>whnf);refine ⟨l.length - (i+1),by omega,i+1,rfl,rfl,rfl,by omega,fun j hj xu=>?_⟩;rcases Nat.lt_succ_iff_lt_or_eq.1 hj with h|rfl
  ·exact hg j h xu
  exact hc
 have hb:¬ (i:Int)<((l.map fK).length:Int):=of_decide_eq_false hb;rw [List.length_map] at hb;(conv=>whnf);exact ⟨by rw [Rp (fun j hj=>hg j (by omega) hj)],rfl⟩
theorem vc {α:Type} (p:α->Bool) (l:List α):decide (0<=jK p l)=l.any p:=by
 unfold jK;cases h:l.findIdx? p with
 | none=>
   rw [List.findIdx?_eq_none_iff] at h;have:l.any p=false:=by rw [List.any_eq_false];intro x hx;simp [h x hx]
   rw [this];rfl
 | some i=>
   rw [List.findIdx?_eq_some_iff_getElem] at h;obtain ⟨h1,h2,_⟩:=h;have:l.any p=true:=by rw [List.any_eq_true];exact ⟨l[i],List.getElem_mem h1,h2⟩
   rw [this];exact decide_eq_true (by show (0:Int)<=(i:Int);omega)
def c234:aw:=⟨[0,1,4],[],[],[],[],[]⟩
theorem Zu (l:List cV) (hl:l.length<=aq) (f:FuncId) (bB:List AV) (p:cV->Bool) (hp:∀ w∈l,ae Tryz.prog f (.agg (fK w)::bB) [] (.bool (p w))) :
  ae Tryz.prog 234 [.sl 4 none (l.map fK),.fn f bB] [] (.bool (l.any p)):=by
 refine sJ (fn:=Tryz.f234) (code:=(Tryz.f234.body.getD .skip)) (c:=c234) rfl rfl rfl mixed (by simp [Tryz.f234]) fun X=>?_;(conv=>whnf);refine ae.k0 (Zt l hl f bB p hp) ?_;(conv=>whnf);exact ⟨congrArg AV.bool (vc p l),rfl⟩
def Au (kind:Int) (y:UInt8):Bool:=small y||(!decide (kind=3)&&lS y)
def mU (kind:Int) (s:List UInt8):Bool:=decide (1<=s.length)&&decide (s.length<=8)&&s.all (Au kind)
def c233:aw:=⟨[0,1,4,5,6,14,18,42],[],[],[],[],[]⟩
theorem Zv (kind:Int) (s:List UInt8) (hs:s.length<=aq):ae Tryz.prog 233 [.int .i64 kind,.str s] [] (.bool (mU kind s)):=by
 refine sJ (fn:=Tryz.f233) (code:=(Tryz.f233.body.getD .skip)) (c:=c233) rfl rfl rfl mixed (by simp [Tryz.f233]) fun X=>?_;unfold aq at hs;(conv=>whnf);refine ⟨fun hc=>?_,fun hc=>?_⟩
 ·have hc:(decide ((s.length:Int)<1)||decide (8<(s.length:Int)))=true:=hc;(conv=>whnf);refine ⟨congrArg AV.bool ?_,rfl⟩;symm;simp only [Bool.or_eq_true,decide_eq_true_eq] at hc;unfold mU;simp only [Bool.and_eq_false_iff,decide_eq_false_iff_not];omega
 have hc:(decide ((s.length:Int)<1)||decide (8<(s.length:Int)))=false:=hc;simp only [Bool.or_eq_false_iff,decide_eq_false_iff_not] at hc;have lX:(decide (1<=s.length)&&decide (s.length<=8))=true:=by simp only [Bool.and_eq_true,decide_eq_true_eq];omega
 (conv=>whnf);refine Fw (c:=c233) mixed [0,1,5] [] (fun m r h=>∃ i:Nat,r=[(0,[],.int .i64 kind),(1,[],.str s),(5,[],.int .i64 i)]/\h=[]/\m=s.length - i/\i<=s.length/\∀ j y,j<i->s[j]?=some y->Au kind y=true) ?_ ?_
 ·(conv=>whnf);exact ⟨_,0,rfl,rfl,rfl,by omega,by intro j y hj;omega⟩
 rintro m r h ⟨i,rfl,rfl,rfl,hi,hg⟩;(conv=>whnf);refine ⟨fun hb=>?_,fun hb=>?_⟩
 ·have hb:(i:Int)<(s.length:Int):=of_decide_eq_true hb;have aL:i<s.length:=(by omega);have hx:=List.getElem?_eq_getElem aL;(conv=>whnf);refine ⟨i,s[i],⟨rfl,hx⟩,?_⟩
  have e:((decide ((97:Int)<=(s[i].toNat:Int))&&decide ((s[i].toNat:Int)<=122))||((!decide (kind=3)&&decide ((65:Int)<=(s[i].toNat:Int)))&&decide ((s[i].toNat:Int)<=90)))=Au kind s[i]:=by unfold Au lS small;rw [<- wU,<- wU,<- wV,<- wV,Bool.and_assoc];rfl
  (conv=>whnf);refine ⟨fun hc=>?_,fun hc=>?_⟩
  ·have hc:(!((decide ((97:Int)<=(s[i].toNat:Int))&&decide ((s[i].toNat:Int)<=122))||((!decide (kind=3)&&decide ((65:Int)<=(s[i].toNat:Int)))&&decide ((s[i].toNat:Int)<=90))))=true:=hc;rw [e] at hc;(conv=>whnf);refine ⟨congrArg AV.bool ?_,rfl⟩;symm;unfold mU;rw [Bool.and_eq_false_iff];right;rw [List.all_eq_false];exact ⟨s[i],List.getElem_mem aL,by simpa using hc⟩
  have hc:(!((decide ((97:Int)<=(s[i].toNat:Int))&&decide ((s[i].toNat:Int)<=122))||((!decide (kind=3)&&decide ((65:Int)<=(s[i].toNat:Int)))&&decide ((s[i].toNat:Int)<=90))))=false:=hc;rw [e] at hc;(conv=>whnf);refine ⟨⟨by omega,by omega⟩,?_⟩;(conv=>whnf);refine ⟨s.length - (i+1),by omega,i+1,rfl,rfl,rfl,by omega,fun j y hj hy=>?_⟩;rcases Nat.lt_succ_iff_lt_or_eq.1 hj with h|rfl
  ·exact hg j y h hy
  rw [hx] at hy;cases hy;simpa using hc
 have hb:¬ (i:Int)<(s.length:Int):=of_decide_eq_false hb;(conv=>whnf);refine ⟨congrArg AV.bool ?_,rfl⟩;symm;unfold mU;rw [lX,Bool.true_and,List.all_eq_true];intro y hy;obtain ⟨j,hj,rfl⟩:=List.getElem_of_mem hy;exact hg j _ (by omega) (List.getElem?_eq_getElem hj)
structure eA where
 code:List UInt8
 wide:Int
 high:Int
 even:Bool
 values:List cV
structure Lst where
 iD:Int
 aB:List eA
def jo (s:eA):List AV:=[.str s.code,.int .i64 s.wide,.int .i64 s.high,.bool s.even,.sl 4 none (s.values.map fK)]
def pG (l:Lst):List AV:=[.int .i64 l.iD,.sl 5 none (l.aB.map jo)]
def mr (l:Lst) (before:List cV) (v:cV):Int:=
 if v.kind<1\/3<v.kind\/mU v.kind v.text=false then 12
 else if v.fr<1\/v.to<v.fr\/l.iD<v.to then 13
 else if before.any (mT v)=true then 12
 else 0
def c181:aw:=⟨[0,1,2,3,5,6,7,24,42],[],[],[],[],[]⟩
theorem Zw (l:Lst) (before:List cV) (v:cV) (hb:before.length<=aq) (hv:v.text.length<=aq) :
  ae Tryz.prog 181 [.agg (pG l),.sl 4 none (before.map fK),.agg (fK v)] [] (.int .i64 (mr l before v)):=by
 refine sJ (fn:=Tryz.f181) (code:=(Tryz.f181.body.getD .skip)) (c:=c181) rfl rfl rfl mixed (by simp [Tryz.f181]) fun X=>?_;(conv=>whnf);refine ⟨_,fun h1=>Zv v.kind v.text hv,?_⟩;(conv=>whnf);refine ⟨fun hc=>?_,fun hc=>?_⟩
 ·have hc:(decide (v.kind<1)||decide (3<v.kind)||!(mU v.kind v.text))=true:=hc;(conv=>whnf);refine ⟨congrArg (AV.int .i64) ?_,rfl⟩;unfold mr;rw [if_pos (by simpa [or_assoc] using hc)]
 have hc:(decide (v.kind<1)||decide (3<v.kind)||!(mU v.kind v.text))=false:=hc;have bQ:¬ (v.kind<1\/3<v.kind\/mU v.kind v.text=false):=by intro hh;have:(decide (v.kind<1)||decide (3<v.kind)||!(mU v.kind v.text))=true:=(by simpa [or_assoc] using hh);rw [hc] at this;cases this
 (conv=>whnf);refine ⟨fun hd=>?_,fun hd=>?_⟩
 ·have hd:(decide (v.fr<1)||decide (v.to<v.fr)||decide (l.iD<v.to))=true:=hd;(conv=>whnf);refine ⟨congrArg (AV.int .i64) ?_,rfl⟩;unfold mr;rw [if_neg bQ,if_pos (by simpa [or_assoc] using hd)]
 have hd:(decide (v.fr<1)||decide (v.to<v.fr)||decide (l.iD<v.to))=false:=hd;have cU:¬ (v.fr<1\/v.to<v.fr\/l.iD<v.to):=by intro hh;have:(decide (v.fr<1)||decide (v.to<v.fr)||decide (l.iD<v.to))=true:=(by simpa [or_assoc] using hh);rw [hd] at this;cases this
 (conv=>whnf);refine ae.k0 (Zu before hb 235 [.au (fK v)] (mT v) (fun w _=>Zs v w)) ?_;(conv=>whnf);refine ⟨fun he=>?_,fun he=>?_⟩
 ·have he:before.any (mT v)=true:=he;(conv=>whnf);refine ⟨congrArg (AV.int .i64) ?_,rfl⟩;unfold mr;rw [if_neg bQ,if_neg cU,if_pos he]
 have he:before.any (mT v)=false:=he;(conv=>whnf);refine ⟨congrArg (AV.int .i64) ?_,rfl⟩;unfold mr;rw [if_neg bQ,if_neg cU,if_neg (by rw [he];decide)]
end Go.Abs.Wall
namespace Go.Abs.Wall
open Go Go.Abs Go.Proofs
def Below {α:Type} (p:α->Bool) (l:List α) (i:Nat):Prop:=∀ j y,j<i->l[j]?=some y->p y=false
theorem Below.zero {α:Type} {p:α->Bool} {l:List α}:Below p l 0:=fun j y h=>by omega
theorem Below.succ {α:Type} {p:α->Bool} {l:List α} {i:Nat} {x:α} (h:Below p l i) (hx:l[i]?=some x) (hp:p x=false):Below p l (i+1):=by
 intro j y hj hy;rcases Nat.lt_succ_iff_lt_or_eq.1 hj with h'|rfl
 ·exact h j y h' hy
 rw [hx] at hy;cases hy;exact hp
theorem Below.at {α:Type} {p:α->Bool} {l:List α} {i:Nat} {x:α} (hb:Below p l i) (hx:l[i]?=some x) (hp:p x=true):jK p l=(i:Int):=by obtain ⟨h1,h2⟩:=List.getElem?_eq_some_iff.1 hx;exact Ro h1 (by rw [h2];exact hp) (fun j hj=>hb j _ hj (List.getElem?_eq_getElem (by omega)))
theorem Below.all {α:Type} {p:α->Bool} {l:List α} {i:Nat} (hb:Below p l i) (hi:l.length<=i):∀ y∈l,p y=false:=by intro y hy;obtain ⟨j,hj,rfl⟩:=List.getElem_of_mem hy;exact hb j _ (by omega) (List.getElem?_eq_getElem hj)
theorem Below.end {α:Type} {p:α->Bool} {l:List α} {i:Nat} (hb:Below p l i) (hi:l.length<=i):jK p l = -1:=
 Rp (fun j hj=>hb.all hi _ (List.getElem_mem hj))
def c179:aw:=⟨[0,1,4,5,7,8,9,16],[],[],[],[],[]⟩
def c124:aw:=⟨[0,1,4],[],[],[],[],[]⟩
theorem Zx (l:List Int) (hl:l.length<=aq) (f:FuncId) (bB:List AV) (p:Int->Bool) (hp:∀ w∈l,ae Tryz.prog f (.int .i64 w::bB) [] (.bool (p w))) :
  ae Tryz.prog 179 [.sl 1 none (ints l),.fn f bB] [] (.int .i64 (jK p l)):=by
 refine aG (F:=Tryz.f179) c179 rfl rfl rfl mixed rfl fun X=>?_;(conv=>whnf);unfold aq at hl;refine bM rfl mixed [0,1,7,8] [] (fun m r h=>∃ (i:Nat),r=[(0,[],.sl 1 none (ints l)),(1,[],.fn f bB),(7,[],.int .i64 (ints l).length),(8,[],.int .i64 i)]/\h=[]/\m=l.length - i/\i<=l.length/\Below p l i) ?_ ?_
 ·(conv=>whnf);exact ⟨_,0,rfl,rfl,rfl,by omega,.zero⟩
 rintro m r h ⟨i,rfl,rfl,rfl,hi,hg⟩;(conv=>whnf);refine ⟨fun hc=>?_,fun hc=>?_⟩<;>simp at hc
 ·obtain ⟨x,hx⟩:=aN hc;(conv=>whnf);repeat ((first|refine ix (by assumption) ?_|(refine ae.k0 (hp x (List.mem_of_getElem? hx)) ?_));conv=>whnf)
  refine ⟨fun hd=>?_,fun hd=>?_⟩
  ·(conv=>whnf);exact ⟨by rw [hg.at hx hd],rfl⟩
  (conv=>whnf);repeat (refine ⟨af ⟨by omega,by omega⟩,?_⟩;conv=>whnf)
  exact ⟨_,by omega,i+1,rfl,rfl,rfl,by omega,hg.succ hx hd⟩
 (conv=>whnf);exact ⟨by rw [hg.end hc],rfl⟩
theorem Zy (l:List Int) (hl:l.length<=aq) (f:FuncId) (bB:List AV) (p:Int->Bool) (hp:∀ w∈l,ae Tryz.prog f (.int .i64 w::bB) [] (.bool (p w))) :
  ae Tryz.prog 124 [.sl 1 none (ints l),.fn f bB] [] (.bool (l.any p)):=by
 refine aG (F:=Tryz.f124) c124 rfl rfl rfl mixed rfl fun X=>?_;(conv=>whnf);refine ae.k0 (Zx l hl f bB p hp) ?_;(conv=>whnf);exact ⟨congrArg AV.bool (vc p l),rfl⟩
end Go.Abs.Wall
namespace Go.Abs.Wall
open Go Go.Abs Go.Proofs
def qz (l:Lst) (vs:List cV):List cV->Nat->Int
 | [],_=>0
 | v::t,i=>if mr l (vs.take i) v≠0 then mr l (vs.take i) v else qz l vs t (i+1)
def jP (l:Lst) (s:eA):Int:=
 if s.wide<1\/12<s.wide\/s.high<1\/12<s.high then 11
 else if 12<s.values.length then 2
 else qz l s.values s.values 0
def rm (l:Lst):List eA->List (List UInt8)->Int
 | [],_=>0
 | s::t,seen=>if pF s.code=false\/s.code∈seen then 10 else if jP l s≠0 then jP l s else rm l t (seen++[s.code])
def kS (l:Lst):Int:=
 if 200<l.aB.length then 2
 else if l.iD<1\/9<l.iD then 13
 else rm l l.aB []
structure KC (s:eA):Prop where
 code:s.code.length<=aq
 values:s.values.length<=aq
 texts:∀ v∈s.values,v.text.length<=aq
structure yJ (l:Lst):Prop where
 aB:l.aB.length<=aq
 each:∀ s∈l.aB,KC s
theorem eqStr (a b:List UInt8):ju Tryz.prog 9 (.str a) (.str b)=some (decide (a=b)):=rfl
theorem KD:pQ Tryz.prog 9=true:=by decide +kernel
def yK (seen:List (List UInt8)):List (List UInt8 × Int):=seen.map fun c=>(c,1)
theorem Rq (c:List UInt8) (seen:List (List UInt8)):(dF c (yK seen)).getD 0=if c∈seen then 1 else 0:=by
 induction seen with
 | nil=>rfl
 | cons a t ih=>
   unfold yK at ih ⊢;simp only [List.map_cons,dF,List.mem_cons];by_cases h:c=a
   ·simp [h]
   simp [h,ih]
theorem Zz (c:List UInt8) (seen:List (List UInt8)) (h:c ∉ seen):wx c 1 (yK seen)=yK (seen++[c]):=by
 induction seen with
 | nil=>rfl
 | cons a t ih=>
   simp only [List.mem_cons,not_or] at h;unfold yK at ih ⊢;simp only [List.map_cons,wx,List.cons_append];rw [if_neg h.1,ih h.2]
def c126:aw:=⟨[0,1,2,3,5,6,7,8,12,20,23,24,25,26,39,62,66,68,69,70,71,83],[],[5,7],[],[(19,[0,1,2,3,4,5,6,7],[])],[]⟩
set_option maxHeartbeats 1000000 in
theorem ZA (l:Lst) (hl:yJ l):ae Tryz.prog 126 [.agg (pG l)] [] (.int .i64 (kS l)):=by
 have kE:=hl.aB;unfold aq at kE;refine ae.yk (aG (F:=Tryz.f126) c126 rfl rfl rfl mixed rfl fun X=>?_);(conv=>whnf);refine ⟨fun hc=>?_,fun hc=>?_⟩<;>simp at hc
 ·(conv=>whnf);rw [kS,if_pos (by omega)]
 (conv=>whnf);refine ⟨fun hd=>?_,fun hd=>?_⟩<;>simp at hd
 ·(conv=>whnf);rw [kS,if_neg (by omega),if_pos (by omega)]
 have qe:kS l=rm l l.aB []:=(by rw [kS,if_neg (by omega),if_neg (by omega)]);(conv=>whnf);intro bm;(conv=>whnf);refine bM rfl mixed [1,3,23,24,25] [] (fun m r h=>∃ (i:Nat) (seen:List (List UInt8)),r=[(1,[],.au (pG l)),(3,[],.omap bm),(23,[],.sl 5 none (l.aB.map jo)),(24,[],.int .i64 (l.aB.map jo).length),(25,[],.int .i64 i)]/\h=[(bm,.map (po AV.str (AV.int .i64) (yK seen)))]/\m=l.aB.length - i/\i<=l.aB.length/\kS l=rm l (l.aB.drop i) seen) ?_ ?_
 ·(conv=>whnf);exact ⟨_,0,[],rfl,rfl,rfl,by omega,qe⟩
 rintro m r h ⟨i,seen,rfl,rfl,rfl,hi,hr⟩;(conv=>whnf);refine ⟨fun he=>?_,fun he=>?_⟩<;>simp at he
 ·obtain ⟨s,hx⟩:=aN he;have hf:=hl.each s (List.mem_of_getElem? hx);rw [drop_cons hx,rm] at hr;(conv=>whnf);repeat ((first|refine ix (by assumption) ?_|refine ⟨_,_,aK.here _,⟨Nat.le_of_ble_eq_true rfl,rfl⟩,?_⟩|intro (nb:Nat));conv=>whnf)
  refine ae.k0 (validCode s.code hf.code) ?_;(conv=>whnf);refine PV (List.mem_singleton.2 rfl) eqStr KD ?_;(conv=>whnf);rw [Rq];refine ⟨fun bA=>?_,fun bA=>?_⟩
  ·have bA:pF s.code=false\/s.code∈seen:=by
    by_cases hm:s.code∈seen
    ·exact .inr hm
    simp [hm] at bA;exact .inl bA
   (conv=>whnf);rw [hr,if_pos bA]
  have bA:¬ (pF s.code=false\/s.code∈seen):=by
   by_cases hm:s.code∈seen
   ·simp [hm] at bA
   simp [hm] at bA;simp [hm,bA]
  rw [if_neg bA] at hr;(conv=>whnf);refine PV (List.mem_singleton.2 rfl) eqStr KD ?_;rw [Rq];have Ar:s.code ∉ seen:=fun h=>bA (.inr h);rw [if_neg Ar];(conv=>whnf);repeat (refine ⟨af ⟨by omega,by omega⟩,?_⟩;conv=>whnf)
  refine OJ eqStr KD (cH.here _) ?_;rw [show (0:Int)+1=1 from rfl,Zz _ _ Ar];(conv=>whnf);refine ⟨fun hz=>?_,fun hz=>?_⟩<;>simp at hz
  ·have yL:jP l s=11:=(by rw [jP,if_pos (by omega)]);rw [yL,if_pos (by decide)] at hr;(conv=>whnf);rw [hr]
  (conv=>whnf);refine ⟨fun hy=>?_,fun hy=>?_⟩<;>simp at hy
  ·have yL:jP l s=2:=(by rw [jP,if_neg (by omega),if_pos (by omega)]);rw [yL,if_pos (by decide)] at hr;(conv=>whnf);rw [hr]
  have yL:jP l s=qz l s.values s.values 0:=(by rw [jP,if_neg (by omega),if_neg (by omega)]);have xv:=hf.values;unfold aq at xv;(conv=>whnf);refine bM rfl mixed [1,3,5,23,24,25,68,69,70] [] (fun m r h=>∃ (j:Nat),r=[(1,[],.au (pG l)),(3,[],.omap bm),(5,[],.au (jo s)),(23,[],.sl 5 none (l.aB.map jo)),(24,[],.int .i64 (l.aB.map jo).length),(25,[],.int .i64 i),(68,[],.sl 4 none (s.values.map fK)),(69,[],.int .i64 (s.values.map fK).length),(70,[],.int .i64 j)]/\h=[(bm,.map (po AV.str (AV.int .i64) (yK (seen++[s.code]))))]/\m=s.values.length - j/\j<=s.values.length/\jP l s=qz l s.values (s.values.drop j) j) ?_ ?_
  ·(conv=>whnf);exact ⟨_,0,rfl,rfl,rfl,by omega,yL⟩
  rintro m r h ⟨j,rfl,rfl,rfl,hj,hv⟩;(conv=>whnf);refine ⟨fun ha=>?_,fun ha=>?_⟩<;>simp at ha
  ·obtain ⟨v,qZ⟩:=aN ha;have KE:=hf.texts v (List.mem_of_getElem? qZ);rw [drop_cons qZ,qz] at hv;(conv=>whnf);repeat ((first|refine ix (by assumption) ?_|refine ⟨_,_,aK.here _,⟨Nat.le_of_ble_eq_true rfl,rfl⟩,?_⟩|refine And.intro (by show aJ (aH Tryz.f126 _) _=true;decide +kernel) ?_|intro (nb:Nat));conv=>whnf)
   refine ⟨⟨by omega,by omega,by simp;omega⟩,?_⟩;have hq:=Zw l (s.values.take j) v (by simp [aq];omega) KE;rw [List.map_take] at hq;(conv=>whnf);refine aX hq ?_;(conv=>whnf);refine ⟨fun hu=>?_,fun hu=>?_⟩<;>simp at hu
   ·rw [if_pos hu] at hv;rw [hv,if_pos hu] at hr;(conv=>whnf);rw [hr]
   rw [if_neg (by simpa using hu)] at hv;(conv=>whnf);repeat (refine ⟨af ⟨by omega,by omega⟩,?_⟩;conv=>whnf)
   exact ⟨_,by omega,j+1,rfl,rfl,rfl,by omega,hv⟩
  rw [drop_nil ha,qz] at hv;rw [hv,if_neg (by decide)] at hr;(conv=>whnf);repeat (refine ⟨af ⟨by omega,by omega⟩,?_⟩;conv=>whnf)
  exact ⟨_,by omega,i+1,_,rfl,rfl,rfl,by omega,hr⟩
 rw [drop_nil he] at hr;(conv=>whnf);rw [hr];rfl
end Go.Abs.Wall
namespace Go.Abs.Wall
open Go Go.Abs Go.Proofs
def c168:aw:=⟨[0,1,2,6],[],[],[],[],[]⟩
def c110:aw:=⟨[0,2,3,17,21,42],[],[],[],[],[]⟩
def c172:aw:=⟨[0,2,3,7,14],[],[],[],[],[]⟩
def c171:aw:=⟨[0,2,3,7,21],[],[],[],[],[]⟩
def c169:aw:=⟨[0,1,4,12,14],[],[],[],[],[]⟩
theorem Av (c lo hi:Int):ae Tryz.prog 168 [.int .u8 c,.int .u8 lo,.int .u8 hi] [] (.bool (decide (lo<=c)&&decide (c<=hi))):=by refine aG (F:=Tryz.f168) c168 rfl rfl rfl mixed rfl fun X=>?_;(conv=>whnf);exact ⟨rfl,rfl⟩
theorem KF (y:UInt8) (a b:Nat):(decide ((a:Int)<=(y.toNat:Int))&&decide ((y.toNat:Int)<=(b:Int)))=(decide (a<=y.toNat)&&decide (y.toNat<=b)):=by rw [wU,wV]
theorem KG (y:UInt8):(decide ((97:Int)<=(y.toNat:Int))&&decide ((y.toNat:Int)<=122))=small y:=KF y 97 122
theorem KH (y:UInt8):(decide ((65:Int)<=(y.toNat:Int))&&decide ((y.toNat:Int)<=90))=lS y:=KF y 65 90
theorem ZB (y:UInt8):(decide ((48:Int)<=(y.toNat:Int))&&decide ((y.toNat:Int)<=57))=digit y:=KF y 48 57
theorem Rr (s:List UInt8) (hs:s.length<=aq):ae Tryz.prog 172 [.str s] [] (.bool (s.all small)):=by
 refine aG (F:=Tryz.f172) c172 rfl rfl rfl mixed rfl fun X=>?_;(conv=>whnf);unfold aq at hs;refine bM rfl mixed [0,3] [] (fun m r h=>∃ (i:Nat),r=[(0,[],.str s),(3,[],.int .i64 i)]/\h=[]/\m=s.length - i/\i<=s.length/\s.all small=(s.drop i).all small) ?_ ?_
 ·(conv=>whnf);exact ⟨_,0,rfl,rfl,rfl,by omega,rfl⟩
 rintro m r h ⟨i,rfl,rfl,rfl,hi,hr⟩;(conv=>whnf);refine ⟨fun hc=>?_,fun hc=>?_⟩<;>simp at hc
 ·obtain ⟨y,hx⟩:=aN hc;rw [drop_cons hx,List.all_cons] at hr;(conv=>whnf);repeat ((first|refine sx (by assumption) ?_|refine ae.k0 (Av _ _ _) ?_);conv=>whnf)
  rw [KG];refine ⟨fun hd=>?_,fun hd=>?_⟩<;>simp at hd
  ·(conv=>whnf);exact ⟨by rw [hr,hd];rfl,rfl⟩
  rw [hd,Bool.true_and] at hr;(conv=>whnf);repeat (refine ⟨af ⟨by omega,by omega⟩,?_⟩;conv=>whnf)
  exact ⟨_,by omega,i+1,rfl,rfl,rfl,by omega,hr⟩
 rw [drop_nil hc] at hr;(conv=>whnf);exact ⟨by rw [hr];rfl,rfl⟩
theorem Rs (s:List UInt8) (hs:s.length<=aq):ae Tryz.prog 171 [.str s] [] (.bool (s.all fun y=>small y||lS y)):=by
 refine aG (F:=Tryz.f171) c171 rfl rfl rfl mixed rfl fun X=>?_;(conv=>whnf);unfold aq at hs;refine bM rfl mixed [0,3] [] (fun m r h=>∃ (i:Nat),r=[(0,[],.str s),(3,[],.int .i64 i)]/\h=[]/\m=s.length - i/\i<=s.length/\(s.all fun y=>small y||lS y)=(s.drop i).all fun y=>small y||lS y) ?_ ?_
 ·(conv=>whnf);exact ⟨_,0,rfl,rfl,rfl,by omega,rfl⟩
 rintro m r h ⟨i,rfl,rfl,rfl,hi,hr⟩;(conv=>whnf);refine ⟨fun hc=>?_,fun hc=>?_⟩<;>simp at hc
 ·obtain ⟨y,hx⟩:=aN hc;rw [drop_cons hx,List.all_cons] at hr;(conv=>whnf);repeat ((first|refine sx (by assumption) ?_|refine ae.k0 (Av _ _ _) ?_|refine aX (Av _ _ _) ?_);conv=>whnf)
  rw [KG,KH];refine ⟨fun hd=>?_,fun hd=>?_⟩
  ·(conv=>whnf);exact ⟨by rw [hr];simp at hd;simp [hd],rfl⟩
  rw [show (small y||lS y)=true by simp at hd;cases h:small y<;>simp [h] at hd ⊢;exact hd,Bool.true_and] at hr
  (conv=>whnf);repeat (refine ⟨af ⟨by omega,by omega⟩,?_⟩;conv=>whnf)
  exact ⟨_,by omega,i+1,rfl,rfl,rfl,by omega,hr⟩
 rw [drop_nil hc] at hr;(conv=>whnf);exact ⟨by rw [hr];rfl,rfl⟩
theorem ZC (s:List UInt8) (hs:s.length<=aq):ae Tryz.prog 110 [.str s] [] (.bool (pF s)):=by
 refine aG (F:=Tryz.f110) c110 rfl rfl rfl mixed rfl fun X=>?_;(conv=>whnf);unfold aq at hs;repeat ((first|(refine Xv ?_ ?_;(conv=>whnf);(intro h;simp at h;show 0<=0/\0<_;omega))|refine aX (Av _ _ _) ?_);conv=>whnf)
 rw [KH];refine ⟨fun hc=>?_,fun hc=>?_⟩
 ·(conv=>whnf);refine ⟨congrArg AV.bool ?_,rfl⟩;symm;simp only [Bool.or_eq_true,decide_eq_true_eq,Bool.not_eq_true'] at hc;unfold pF;simp only [Bool.and_eq_false_iff,decide_eq_false_iff_not];rcases hc with (hc|hc)|hc
  ·exact .inl (.inl (.inl (by omega)))
  ·exact .inl (.inl (.inr (by omega)))
  exact .inl (.inr hc)
 have lX:(decide (1<=s.length)&&decide (s.length<=8)&&lS (s[0]?.getD 0))=true:=by simp only [Bool.or_eq_false_iff,decide_eq_false_iff_not,Bool.not_eq_false'] at hc;simp only [Bool.and_eq_true,decide_eq_true_eq];exact ⟨by omega,hc.2⟩
 have tf:pF s=s.all tZ:=by unfold pF;rw [lX];rfl
 (conv=>whnf);refine bM rfl mixed [0,3] [] (fun m r h=>∃ (i:Nat),r=[(0,[],.str s),(3,[],.int .i64 i)]/\h=[]/\m=s.length - i/\i<=s.length/\pF s=(s.drop i).all tZ) ?_ ?_
 ·(conv=>whnf);exact ⟨_,0,rfl,rfl,rfl,by omega,tf⟩
 rintro m r h ⟨i,rfl,rfl,rfl,hi,hr⟩;(conv=>whnf);refine ⟨fun hc=>?_,fun hc=>?_⟩<;>simp at hc
 ·obtain ⟨y,hx⟩:=aN hc;rw [drop_cons hx,List.all_cons] at hr;(conv=>whnf);repeat ((first|refine sx (by assumption) ?_|refine ae.k0 (Av _ _ _) ?_|refine aX (Av _ _ _) ?_);conv=>whnf)
  rw [KG,KH,ZB];refine ⟨fun hd=>?_,fun hd=>?_⟩
  ·(conv=>whnf);refine ⟨congrArg AV.bool ?_,rfl⟩;rw [hr,show tZ y=false by unfold tZ;revert hd;cases small y<;>cases lS y<;>cases digit y<;>decide];rfl
  rw [show tZ y=true by unfold tZ;revert hd;cases small y<;>cases lS y<;>cases digit y<;>decide,Bool.true_and] at hr
  (conv=>whnf);repeat (refine ⟨af ⟨by omega,by omega⟩,?_⟩;conv=>whnf)
  exact ⟨_,by omega,i+1,rfl,rfl,rfl,by omega,hr⟩
 rw [drop_nil hc] at hr;(conv=>whnf);exact ⟨by rw [hr];rfl,rfl⟩
theorem ZD (kind:Int) (s:List UInt8) (hs:s.length<=aq):ae Tryz.prog 169 [.int .i64 kind,.str s] [] (.bool (mU kind s)):=by
 refine aG (F:=Tryz.f169) c169 rfl rfl rfl mixed rfl fun X=>?_;(conv=>whnf);refine ⟨fun hc=>?_,fun hc=>?_⟩<;>simp at hc
 ·(conv=>whnf);refine ⟨congrArg AV.bool ?_,rfl⟩;unfold mU;symm;simp only [Bool.and_eq_false_iff,decide_eq_false_iff_not];omega
 have lX:(decide (1<=s.length)&&decide (s.length<=8))=true:=by simp only [Bool.and_eq_true,decide_eq_true_eq];omega
 (conv=>whnf);refine ⟨fun hk=>?_,fun hk=>?_⟩<;>simp at hk
 ·(conv=>whnf);repeat (refine ae.k0 (Rr s hs) ?_;conv=>whnf)
  refine ⟨congrArg AV.bool ?_,rfl⟩;unfold mU;rw [lX,Bool.true_and];congr 1;funext y;unfold Au;simp [hk]
 (conv=>whnf);repeat (refine ae.k0 (Rs s hs) ?_;conv=>whnf)
 refine ⟨congrArg AV.bool ?_,rfl⟩;unfold mU;rw [lX,Bool.true_and];congr 1;funext y;unfold Au;simp [hk]
end Go.Abs.Wall
namespace Go.Abs.Wall
open Go Go.Abs Go.Proofs
def c170:aw:=⟨[0,1,2,3,4],[],[],[],[],[]⟩
def c111:aw:=⟨[0,1,2,4,5,10,20],[],[],[],[],[]⟩
def c112:aw:=⟨[0,1,2,4,5,6,7,25,29,34,57,73,76,85],[],[6],[],[(16,[0,1,2,3,4,5,6],[])],[]⟩
def c60:aw:=⟨[0,1,2,3,4,8,16,21,43,53],[],[],[],[(8,[0,1,2,3,4,5,6,7,8,9,10,11,12,13,14,15,16,17,18,19],[]),(10,[0,1,2,3,4,5,6,7,8],[])],[]⟩
theorem ZE (a b:cV):ae Tryz.prog 170 [.agg (fK a),.agg (fK b)] [] (.bool (mT b a)):=by
 refine aG (F:=Tryz.f170) c170 rfl rfl rfl mixed rfl fun X=>?_;(conv=>whnf);skip;refine ⟨congrArg AV.bool ?_,rfl⟩;unfold mT;rw [Bool.eq_iff_iff];simp only [Bool.and_eq_true,decide_eq_true_eq];constructor
 ·rintro ⟨⟨⟨h1,h2⟩,h3⟩,h4⟩;exact ⟨⟨⟨h1.symm,h2.symm,trivial⟩,h4⟩,h3⟩
 rintro ⟨⟨⟨h1,h2,_⟩,h4⟩,h3⟩;exact ⟨⟨⟨h1.symm,h2.symm⟩,h3⟩,h4⟩
theorem ZF (l:Lst) (c:List UInt8) (hl:yJ l):ae Tryz.prog 111 [.agg (pG l),.str c] [] (.int .i64 (jK (fun s:eA=>decide (s.code=c)) l.aB)):=by
 refine aG (F:=Tryz.f111) c111 rfl rfl rfl mixed rfl fun X=>?_;(conv=>whnf);have kE:=hl.aB;unfold aq at kE;refine bM rfl mixed [1,2,5] [] (fun m r h=>∃ (i:Nat),r=[(1,[],.str c),(2,[],.au (pG l)),(5,[],.int .i64 i)]/\h=[]/\m=l.aB.length - i/\i<=l.aB.length/\Below (fun s:eA=>decide (s.code=c)) l.aB i) ?_ ?_
 ·(conv=>whnf);exact ⟨_,0,rfl,rfl,rfl,by omega,.zero⟩
 rintro m r h ⟨i,rfl,rfl,rfl,hi,hg⟩;(conv=>whnf);refine ⟨fun hc=>?_,fun hc=>?_⟩<;>simp at hc
 ·obtain ⟨x,hx⟩:=aN hc;(conv=>whnf);repeat (refine ix (by assumption) ?_;conv=>whnf)
  refine ⟨fun hd=>?_,fun hd=>?_⟩
  ·(conv=>whnf);exact ⟨by rw [hg.at hx hd],rfl⟩
  (conv=>whnf);repeat (refine ⟨af ⟨by omega,by omega⟩,?_⟩;conv=>whnf)
  exact ⟨_,by omega,i+1,rfl,rfl,rfl,by omega,hg.succ hx hd⟩
 (conv=>whnf);exact ⟨by rw [hg.end hc],rfl⟩
theorem ZG (l:Lst) (s:eA) (hf:KC s):ae Tryz.prog 112 [.agg (jo s),.int .i64 l.iD] [] (.int .i64 (jP l s)):=by
 refine aG (F:=Tryz.f112) c112 rfl rfl rfl mixed rfl fun X=>?_;(conv=>whnf);have xv:=hf.values;unfold aq at xv;refine ⟨fun hz=>?_,fun hz=>?_⟩<;>simp at hz
 ·(conv=>whnf);exact ⟨by rw [jP,if_pos (by omega)],rfl⟩
 (conv=>whnf);refine ⟨fun hy=>?_,fun hy=>?_⟩<;>simp at hy
 ·(conv=>whnf);exact ⟨by rw [jP,if_neg (by omega),if_pos (by omega)],rfl⟩
 have yL:jP l s=qz l s.values s.values 0:=(by rw [jP,if_neg (by omega),if_neg (by omega)]);(conv=>whnf);refine bM rfl mixed [1,2,5] [] (fun m r h=>∃ (i:Nat),r=[(1,[],.int .i64 l.iD),(2,[],.au (jo s)),(5,[],.int .i64 i)]/\h=[]/\m=s.values.length - i/\i<=s.values.length/\jP l s=qz l s.values (s.values.drop i) i) ?_ ?_
 ·(conv=>whnf);exact ⟨_,0,rfl,rfl,rfl,by omega,yL⟩
 rintro m r h ⟨i,rfl,rfl,rfl,hi,hr⟩;(conv=>whnf);refine ⟨fun hc=>?_,fun hc=>?_⟩<;>simp at hc
 ·obtain ⟨v,hx⟩:=aN hc;have KE:=hf.texts v (List.mem_of_getElem? hx);rw [drop_cons hx,qz] at hr;(conv=>whnf);repeat ((first|refine ix (by assumption) ?_|refine aX (ZD v.kind v.text KE) ?_|refine ⟨_,_,aK.here _,⟨Nat.le_of_ble_eq_true rfl,rfl⟩,?_⟩|intro (nb:Nat));conv=>whnf)
  refine ⟨fun hd=>?_,fun hd=>?_⟩
  ·have he:mr l (s.values.take i) v=12:=by unfold mr;rw [if_pos (by simpa [or_assoc] using hd)]
   rw [he,if_pos (by decide)] at hr;(conv=>whnf);exact ⟨by rw [hr],rfl⟩
  have cU:¬ (v.kind<1\/3<v.kind\/mU v.kind v.text=false):=by intro hh;have:(decide (v.kind<1)||decide (3<v.kind)||!(mU v.kind v.text))=true:=(by simpa [or_assoc] using hh);rw [hd] at this;cases this
  (conv=>whnf);skip;refine ⟨fun he=>?_,fun he=>?_⟩
  ·have he:mr l (s.values.take i) v=13:=by unfold mr;rw [if_neg cU,if_pos (by simpa [or_assoc] using he)]
   rw [he,if_pos (by decide)] at hr;(conv=>whnf);exact ⟨by rw [hr],rfl⟩
  have AZ:¬ (v.fr<1\/v.to<v.fr\/l.iD<v.to):=by intro hh;have:(decide (v.fr<1)||decide (v.to<v.fr)||decide (l.iD<v.to))=true:=(by simpa [or_assoc] using hh);rw [he] at this;cases this
  have tD:mr l (s.values.take i) v=if (s.values.take i).any (mT v)=true then 12 else 0:=by unfold mr;rw [if_neg cU,if_neg AZ]
  (conv=>whnf);refine bM rfl mixed [1,2,5,6,7] [] (fun m r h=>∃ (k:Nat),r=[(1,[],.int .i64 l.iD),(2,[],.au (jo s)),(5,[],.int .i64 i),(6,[],.au (fK v)),(7,[],.int .i64 k)]/\h=[]/\m=i - k/\k<=i/\Below (mT v) (s.values.take i) k) ?_ ?_
  ·(conv=>whnf);exact ⟨_,0,rfl,rfl,rfl,by omega,.zero⟩
  rintro m r h ⟨k,rfl,rfl,rfl,hk,hg⟩;(conv=>whnf);refine ⟨fun ha=>?_,fun ha=>?_⟩<;>simp at ha
  ·obtain ⟨w,ZH⟩:=aN (show k<s.values.length by omega);have Rt:(s.values.take i)[k]?=some w:=by rw [List.getElem?_take_of_lt ha];exact ZH
   (conv=>whnf);repeat ((first|refine ix (by assumption) ?_|refine aX (ZE w v) ?_|refine And.intro (by show aJ (aH Tryz.f112 _) _=true;decide +kernel) ?_);conv=>whnf)
   refine ⟨fun hm=>?_,fun hm=>?_⟩
   ·have:(s.values.take i).any (mT v)=true:=List.any_eq_true.2 ⟨w,List.mem_of_getElem? Rt,hm⟩;rw [tD,if_pos this,if_pos (by decide)] at hr;(conv=>whnf);exact ⟨by rw [hr],rfl⟩
   (conv=>whnf);repeat (refine ⟨af ⟨by omega,by omega⟩,?_⟩;conv=>whnf)
   exact ⟨_,by omega,k+1,rfl,rfl,rfl,by omega,hg.succ Rt hm⟩
  have:¬ (s.values.take i).any (mT v)=true:=by intro h;obtain ⟨y,hy,hm⟩:=List.any_eq_true.1 h;rw [hg.all (by simp;omega) y hy] at hm;cases hm
  rw [tD,if_neg this,if_neg (by decide)] at hr;(conv=>whnf);repeat (refine ⟨af ⟨by omega,by omega⟩,?_⟩;conv=>whnf)
  exact ⟨_,by omega,i+1,rfl,rfl,rfl,by omega,hr⟩
 rw [drop_nil hc] at hr;(conv=>whnf);exact ⟨by rw [hr];rfl,rfl⟩
theorem ZI {l:List eA} {i:Nat} {s:eA} (hx:l[i]?=some s):jK (fun x:eA=>decide (x.code=s.code)) l<(i:Int)↔s.code∈(l.take i).map eA.code:=by
 unfold jK;cases h:l.findIdx? (fun x:eA=>decide (x.code=s.code)) with
 | none=>
   rw [List.findIdx?_eq_none_iff] at h;have:=h s (List.mem_of_getElem? hx);simp at this
 | some j=>
   rw [List.findIdx?_eq_some_iff_getElem] at h;obtain ⟨h1,h2,h3⟩:=h;simp only [decide_eq_true_eq] at h2 h3;constructor
   ·intro aL;have aL:j<i:=(by simpa using aL);rw [<- h2];refine List.mem_map.2 ⟨l[j],?_,rfl⟩;exact List.mem_iff_getElem?.2 ⟨j,by rw [List.getElem?_take_of_lt aL];exact List.getElem?_eq_getElem h1⟩
   intro hm;obtain ⟨y,hy,hc⟩:=List.mem_map.1 hm;obtain ⟨k,hk⟩:=List.mem_iff_getElem?.1 hy;have yM:k<i:=by have:=(List.getElem?_eq_some_iff.1 hk).1;simp at this;omega
   rw [List.getElem?_take_of_lt yM] at hk;obtain ⟨cL,bo⟩:=List.getElem?_eq_some_iff.1 hk;show (j:Int)<(i:Int);by_cases Ii:k<j
   ·have:=h3 k Ii;rw [bo] at this;exact absurd hc this
   omega
theorem Ru (l:Lst) (hl:yJ l):ae Tryz.prog 60 [.agg (pG l)] [] (.int .i64 (kS l)):=by
 have kE:=hl.aB;unfold aq at kE;refine aG (F:=Tryz.f60) c60 rfl rfl rfl mixed rfl fun X=>?_;(conv=>whnf);refine ⟨fun hc=>?_,fun hc=>?_⟩<;>simp at hc
 ·(conv=>whnf);exact ⟨by rw [kS,if_pos (by omega)],rfl⟩
 (conv=>whnf);refine ⟨fun hd=>?_,fun hd=>?_⟩<;>simp at hd
 ·(conv=>whnf);exact ⟨by rw [kS,if_neg (by omega),if_pos (by omega)],rfl⟩
 have qe:kS l=rm l l.aB []:=(by rw [kS,if_neg (by omega),if_neg (by omega)]);(conv=>whnf);refine bM rfl mixed [1,3] [] (fun m r h=>∃ (i:Nat),r=[(1,[],.au (pG l)),(3,[],.int .i64 i)]/\h=[]/\m=l.aB.length - i/\i<=l.aB.length/\kS l=rm l (l.aB.drop i) ((l.aB.take i).map eA.code)) ?_ ?_
 ·(conv=>whnf);exact ⟨_,0,rfl,rfl,rfl,by omega,qe⟩
 rintro m r h ⟨i,rfl,rfl,rfl,hi,hr⟩;(conv=>whnf);refine ⟨fun he=>?_,fun he=>?_⟩<;>simp at he
 ·obtain ⟨s,hx⟩:=aN he;have hf:=hl.each s (List.mem_of_getElem? hx);have uR:(l.aB.take i).map eA.code++[s.code]=(l.aB.take (i+1)).map eA.code:=by rw [List.take_add_one,hx];simp
  rw [drop_cons hx,rm,uR] at hr;simp only [<- ZI hx] at hr;(conv=>whnf);repeat ((first|refine ix (by assumption) ?_|refine aX (ZC s.code hf.code) ?_|refine aX (ZF l s.code hl) ?_|refine And.intro (by show aJ (aH Tryz.f60 _) _=true;decide +kernel) ?_);conv=>whnf)
  refine ⟨fun bA=>?_,fun bA=>?_⟩
  ·have bA:pF s.code=false\/jK (fun x:eA=>decide (x.code=s.code)) l.aB<(i:Int):=by
    simpa [or_comm] using bA
   (conv=>whnf);exact ⟨by rw [hr,if_pos bA],rfl⟩
  have bA:¬ (pF s.code=false\/jK (fun x:eA=>decide (x.code=s.code)) l.aB<(i:Int)):=by simp at bA ⊢;exact ⟨bA.1,bA.2⟩
  rw [if_neg bA] at hr;(conv=>whnf);repeat ((first|refine ix (by assumption) ?_|refine aX (ZG l s hf) ?_|refine And.intro (by show aJ (aH Tryz.f60 _) _=true;decide +kernel) ?_);conv=>whnf)
  refine ⟨fun hu=>?_,fun hu=>?_⟩<;>simp at hu
  ·rw [if_pos hu] at hr;(conv=>whnf);exact ⟨by rw [hr],rfl⟩
  rw [if_neg (by simpa using hu)] at hr;(conv=>whnf);repeat (refine ⟨af ⟨by omega,by omega⟩,?_⟩;conv=>whnf)
  exact ⟨_,by omega,i+1,rfl,rfl,rfl,by omega,hr⟩
 rw [drop_nil he] at hr;(conv=>whnf);exact ⟨by rw [hr];rfl,rfl⟩
end Go.Abs.Wall
