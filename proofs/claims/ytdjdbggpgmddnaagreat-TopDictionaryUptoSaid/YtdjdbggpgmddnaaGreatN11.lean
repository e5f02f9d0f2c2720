/- Small laws for the walks and contracts of functions; each theorem names its conditions. -/
import Derived.Test.YtdjdbggpgmddnaaGreatN10
import Derived.Test.YtdjdbggpgmddnaaGreatProg
/-
 The abstract layer,part Y: drawn regions in which several things are made,in whichever order.
-/
set_option linter.unusedVariables false
set_option linter.unusedSimpArgs false
namespace Go.Abs
open Go
variable {P:Program} {n:Nat} {X:Nat->Prop} {all:List Oper} {cl ord:List Nat} {r:Regs}
def appNil:Op->Bool
 | .call cl=>(match cl.callee with
   | .builtin .append=>(match cl.args.toList with
     | .const (.slice none 0 0)::_=>true
     | _=>false)
   | _=>false)
 | _=>false
def makes (op:Op):Bool:=allocLike op||appNil op
theorem opL_makes {r:Regs} {h:Heap} {K:AV->Heap->Prop} {op:Op} (ha:makes op=true) (hq:opL P r h K op):opL P r h (fun v h'=>K v h'/\∃ x,h'=x::h) op:=by
 unfold makes at ha;rw [Bool.or_eq_true] at ha;rcases ha with ha|ha
 ·exact opL_alloc ha hq
 unfold appNil at ha;split at ha<;>try contradiction
 rename_i cl;split at ha<;>try contradiction
 rename_i hcal;split at ha<;>try contradiction
 rename_i xs hargs;simp only [opL,hcal] at hq ⊢;split at hq<;>try contradiction
 split at hq<;>try contradiction
 split at hq<;>try contradiction
 split at hq<;>try contradiction
 split at hq<;>try contradiction
 split at hq<;>try contradiction
 split at hq
 ·split at hq<;>try contradiction
  obtain ⟨cs2,ys,h1,h2,h3,h4⟩:=hq;exact ⟨cs2,ys,h1,h2,h3,fun q=>⟨h4 q,_,rfl⟩⟩
 ·rename_i hop;rw [hargs] at hop;unfold opnds at hop;simp only [opnd,ofVal] at hop;split at hop<;>try contradiction
  cases hop
 ·split at hq<;>try contradiction
  exact ⟨hq.1,fun q=>⟨hq.2 q,_,rfl⟩⟩
 ·rename_i hop;rw [hargs] at hop;unfold opnds at hop;simp only [opnd,ofVal] at hop;split at hop<;>try contradiction
  cases hop
 ·rename_i hop;rw [hargs] at hop;unfold opnds at hop;simp only [opnd,ofVal] at hop;split at hop<;>try contradiction
  cases hop
 ·rename_i hop;rw [hargs] at hop;unfold opnds at hop;simp only [opnd,ofVal] at hop;split at hop<;>try contradiction
  cases hop
 ·rename_i hop;rw [hargs] at hop;unfold opnds at hop;simp only [opnd,ofVal] at hop;split at hop<;>try contradiction
  cases hop
 ·exact hq.elim
 split at hq<;>try contradiction
 split at hq<;>try contradiction
 split at hq<;>try contradiction
 split at hq<;>try contradiction
 split at hq<;>try contradiction
 split at hq<;>try contradiction
 rename_i hop;rw [hargs] at hop;unfold opnds at hop;simp only [opnd,ofVal] at hop;split at hop<;>try contradiction
 cases hop
theorem opX_makes {r:Regs} {h:Heap} {K:AV->Heap->Prop} {op:Op} {own own2:List Nat} {d:Option Nat} (ha:makes op=true) (hq:opX P own own2 d r h K op):opX P own own2 d r h (fun v h'=>K v h'/\∃ x,h'=x::h) op:=by
 unfold opX at hq ⊢;split at hq
 ·split at hq
  ·skip;unfold opO at hq ⊢;revert hq;repeat' split
   all_goals first|exact fun hh=>hh.elim|exact fun hh=>⟨hh.1,fun b=>⟨hh.2 b,_,rfl⟩⟩
  skip;exact opL_makes ha hq
 ·split at hq
  ·skip;unfold opB at hq ⊢;revert hq;repeat' split
   all_goals first|exact fun hh=>hh.elim|exact fun hh b=>⟨hh b,_,rfl⟩
  skip;exact opL_makes ha hq
 exact opL_makes ha hq
theorem DrawS.swap {kn rest':List Nat} {k i:Nat} (hs:DrawS all cl (kn++k::i::rest')) (hji:Nat.testBit (clN cl i) k=false):DrawS all cl (kn++i::k::rest'):=by
 have hik:∃ oj,all[i]?=some oj:=by obtain ⟨o2,ho2,_⟩:=hs.p4 (kn++[k]) i rest' (by simp);exact ⟨o2,ho2⟩
 obtain ⟨oj,hoj0⟩:=hik;obtain ⟨o,ho,hedge⟩:=hs.p4 kn k (i::rest') rfl
 have hedgei:∀ e∈oj.after.toList,Region.binds .any e=true->e.on∈kn:=by
  obtain ⟨o2,ho2,hh⟩:=hs.p4 (kn++[k]) i rest' (by simp);rw [hoj0] at ho2;cases ho2
  intro e he hb;have:=hh e he hb;simp only [List.mem_append,List.mem_singleton] at this;rcases this with h|h
  ·exact h
  exfalso;have:Cl cl i k:=by unfold Cl;rw [hs.e2 i _ hoj0,cloAt_bit];exact ⟨e,he,hb,.inl h⟩
  unfold Cl at this;rw [hji] at this;cases this
 refine ⟨hs.e1,hs.e2,?_,?_,?_,hs.n1,hs.d1⟩
 ·intro x hx;have:=hs.p2 x hx;simp only [List.mem_append,List.mem_cons] at this ⊢;rcases this with h|h|h|h
  ·exact .inl h
  ·exact .inr (.inr (.inl h))
  ·exact .inr (.inl h)
  exact .inr (.inr (.inr h))
 ·have:=hs.p3;simp only [List.nodup_append,List.nodup_cons,List.mem_cons] at this ⊢;obtain ⟨u1,⟨u2,u3,u4⟩,u5⟩:=this;refine ⟨u1,⟨?_,?_,u4⟩,?_⟩
  ·rintro (e|e)
   ·exact u2 (.inl e.symm)
   exact u3 e
  ·exact fun e=>u2 (.inr e)
  intro x hx y hy;rcases hy with e|e|e
  ·exact u5 x hx y (.inr (.inl e))
  ·exact u5 x hx y (.inl e)
  exact u5 x hx y (.inr (.inr e))
 intro pre x post hpx;rcases List.append_eq_append_iff.1 hpx with ⟨a',e1,e2⟩|⟨c',e1,e2⟩
 ·cases a' with
  | nil=>
    cases e2
    exact ⟨oj,hoj0,fun e he hb=>by rw [e1];simpa using hedgei e he hb⟩
  | cons z a'=>
    cases a' with
    | nil=>
      cases e2
      exact ⟨o,ho,fun e he hb=>by rw [e1];simp [hedge e he hb]⟩
    | cons z2 a'=>
      injection e2 with e3 e4;injection e4 with e5 e6;obtain ⟨o2,ho2,hh⟩:=hs.p4 (kn++k::i::a') x post (by rw [e6];simp);refine ⟨o2,ho2,fun e he hb=>?_⟩;have:=hh e he hb;rw [e1,<- e3,<- e5];simp only [List.mem_append,List.mem_cons] at this ⊢;rcases this with h|h|h|h
      ·exact .inl h
      ·exact .inr (.inr (.inl h))
      ·exact .inr (.inl h)
      exact .inr (.inr (.inr h))
 cases c' with
 | nil=>
   simp at e2;obtain ⟨e3,e4⟩:=e2;subst e3;exact ⟨oj,hoj0,fun e he hb=>by have:=hedgei e he hb;rw [e1] at this;simpa using this⟩
 | cons z c'=>
   simp at e2;obtain ⟨e3,e4⟩:=e2;subst e3;exact hs.p4 pre x (c'++k::i::rest') (by rw [e1];simp)
theorem loud_step {own own2:List Nat} {K:Regs->Heap->Prop} {Rg:List Nat->List Nat->Regs->Heap->Prop} {Q:Exit->Act->World->Prop} (hs:DrawS all cl ord) {fuel i:Nat} {rest kn nf:List Nat} {ents:List (Nat × Nat × G × AV)} {h:Heap} {L:Array Bool} {g0:Gh} {a:Act} {w:World} {o:Oper}
  (hi:DInv n P all cl ord r kn (i::rest) nf ents h L) (ho:all[i]?=some o) (hoi:all.toArray[i]?=some o) (hgd:o.guard=none) (hal0:((makes o.op||(calm (entR ents r) o.op&&nfOKc cl all i nf))||nf.isEmpty)=true) (hkl:L.getD i false=false)
  (he:∀ e∈o.after.toList,Region.binds .any e=true->L.getD e.on false=true)
  (hr:opX P own own2 o.dst (entR ents r) h (fun v h'=>setP n o.dst [] v (entR ents r) fun r'=>Rg rest nf r' h') o.op) (hc:Conc n X g0 (entR (entL L ents) r) h a w) (hu:unl all.length L<=fuel+1)
  (IH:∀ (rest kn nf:List Nat) (ents:List (Nat × Nat × G × AV)) (h:Heap) (L:Array Bool) (g0:Gh) (a:Act) (w:World),
    DInv n P all cl ord r kn rest nf ents h L->Rg rest nf (entR ents r) h->Conc n X g0 (entR (entL L ents) r) h a w->unl all.length L<=fuel ->
    (∀ r' h' g' a' w',K r' h'->Conc n X g' r' h' a' w'->Step X g0 h w g' h' w'->Q .normal a' w')->wpAny P .any all.toArray Q fuel L a w)
  (hf:∀ r' h' g' a' w',K r' h'->Conc n X g' r' h' a' w'->Step X g0 h w g' h' w'->Q .normal a' w') :
  wpOp P all.toArray Q i (wpAny P .any all.toArray Q fuel (L.setIfInBounds i true)) a w:=by
 have hko:i∈ord:=by rw [hi.split];simp
 have hnk:i ∉ kn:=by have:=hs.p3;rw [hi.split,List.nodup_append] at this;exact fun hm=>this.2.2 i hm i (by simp) rfl
 obtain ⟨hlt,_⟩:=hi.lt hs hko;have hlti:i<all.length:=by rw [<- hi.lsize];exact hlt
 have hil:=hkl;have hedge:∀ e∈o.after.toList,Region.binds .any e=true->e.on∈kn:=by obtain ⟨o2,ho2,hh⟩:=hs.p4 kn i rest hi.split;rw [ho] at ho2;cases ho2;exact hh
 have hclk:∀ j,Cl cl i j->j∈kn:=by
  intro j hj
  have:=(clo_closed hs (S:=fun x=>x∈kn\/x=i) (fun x hS=>by
   rcases hS with hS|rfl
   ·obtain ⟨o',ho',hh⟩:=hi.kn_closed hs x hS;exact ⟨o',ho',fun e a b=>.inl (hh e a b)⟩
   exact ⟨o,ho,fun e a b=>.inl (hedge e a b)⟩) i (.inr rfl) j hj)
  rcases this.1 with h|rfl
  ·exact h
  exact absurd this.2 (Nat.lt_irrefl _)
 have hlook:∀ t∈readsOf all o,Look all cl ents r i t (lookR (entR ents r) t):=by intro t ht;refine look_of hi hs ho (fun x hx=>hx) (fun j hj=>⟨hclk j hj,fun x hx _=>hx⟩) ?_ t ht;intro x hx hcx;exact hnk (hi.kn_clo hs (hi.ent1 x hx).1 hcx).1
 have hclo:∀ j,Cl cl i j->L.getD j false=true:=by
  intro j hj
  have:=(clo_closed hs (S:=fun x=>L.getD x false=true\/x=i) (fun x hS=>by
   rcases hS with hS|rfl
   ·obtain ⟨o',ho',hh⟩:=hi.lclosed x hS;exact ⟨o',ho',fun e a b=>.inl (hh e a b)⟩
   exact ⟨o,ho,fun e a b=>.inl (he e a b)⟩) i (.inr rfl) j hj)
  rcases this.1 with h|rfl
  ·exact h
  exact absurd this.2 (Nat.lt_irrefl _)
 unfold wpOp;simp only [hoi,wanted_none hgd,if_true];left;have hac:∀ j,Cl cl i j->Cl cl j i->False:=fun j a b=>hnk (hi.kn_clo hs (hclk j a) b).1
 have hlookL:∀ t∈readsX o.op.operands.toList,lookR (entR ents r) t=lookR (entR (entL L ents) r) t:=by
  intro t ht;have ht':t∈readsOf all o:=by unfold readsOf;exact List.mem_append_right _ ht
  refine look_fun hi hs (hlook t ht') (look_of hi hs ho (fun x hx=>(mem_entL.1 hx).1) ?_ ?_ t ht') hac
  ·intro j hj;exact ⟨hclk j hj,fun x hx hxj=>mem_entL.2 ⟨hx,by rw [hxj];exact hclo j hj⟩⟩
  intro x hx hcx;exact hnk (hi.kn_clo hs (hi.ent1 x (mem_entL.1 hx).1).1 hcx).1
 -- the heap behind it
 have hr2:opX P own own2 o.dst (entR (entL L ents) r) h (fun v h'=>(setP n o.dst [] v (entR ents r) fun r'=>Rg rest nf r' h')/\(makes o.op=true->∃ x,h'=x::h)/\(calm (entR ents r) o.op=true->Kept h h')) o.op:=by
  have hr0:opX P own own2 o.dst (entR ents r) h (fun v h'=>(setP n o.dst [] v (entR ents r) fun r'=>Rg rest nf r' h')/\(calm (entR ents r) o.op=true->Kept h h')) o.op:=by
   by_cases hcm:calm (entR ents r) o.op=true
   ·exact opX_mono (fun v h' hh=>⟨hh.1,fun _=>hh.2⟩) (opX_calm hcm hr)
   exact opX_mono (fun v h' hh=>⟨hh,fun hy=>absurd hy hcm⟩) hr
  have hr1:=opX_congr hlookL hr0;by_cases hal:makes o.op=true
  ·have:=opX_makes hal hr1;exact opX_mono (fun v h' hh=>⟨hh.1.1,fun _=>hh.2,hh.1.2⟩) this
  exact opX_mono (fun v h' hh=>⟨hh.1,fun hy=>absurd hy hal,hh.2⟩) hr1
 refine opX_ok hr2 hc ?_;rintro v h' g' u w' ⟨hset,hx,hkp⟩ hcw hrep hst
 have hstab:∀ k'∈kn,(L.setIfInBounds i true).getD k' false=false->∃ o g v Rk,all[k']?=some o/\entryQ P all Rk h' (fun g' v'=>g'=g/\v'=v) o /\
   (∀ t∈readsOf all o,Look all cl ents r k' t (lookR Rk t)) /\
   (∀ d,o.dst=some d->(k',d,g,v)∈ents/\d<n/\(∀ e∈g,e.1≠d)/\∀ t gg v,lookR r t=some (gg,v)->∀ e∈gg,e.1≠d) /\
   (k' ∉ nf->∀ h',entryQ P all Rk h' (fun g' v'=>g'=g/\v'=v) o):=by
  intro k' hk' hl'
  have hl:L.getD k' false=false:=by
   cases hb:L.getD k' false with
   | false=>rfl
   | true=>rw [getD_set_true hb] at hl';cases hl'
  obtain ⟨o',g2,v2,Rk,q1,q2,q3,q4,q5⟩:=hi.fact k' hk' hl;refine ⟨o',g2,v2,Rk,q1,?_,q3,q4,q5⟩;by_cases hal:makes o.op=true
  ·obtain ⟨x,rfl⟩:=hx hal;exact entryQ_heap (fun g K hh=>opQ_more hh) q2
  by_cases hem:nf.isEmpty=true
  ·exact q5 (by rw [List.isEmpty_iff.1 hem];simp) h'
  rw [Bool.or_eq_true,Bool.or_eq_true] at hal0;have hcn:=(hal0.resolve_right hem).resolve_left hal;rw [Bool.and_eq_true] at hcn;by_cases hnf:k'∈nf
  ·rcases nfOKc_ok hcn.2 k' hnf with h1|⟨o2,h1,h2⟩
   ·have:=hclo k' h1;rw [hl] at this;cases this
   rw [q1] at h1;cases h1
   exact entryQ_heap (fun g K hh=>opQ_kept h2 (hkp hcn.1) hh) q2
  exact q5 hnf h'
 have hown0:∀ {p:Prop},(L.setIfInBounds i true).getD i false=false->p:=by intro p hh;have:(L.setIfInBounds i true).getD i false=true:=(by simp [hlt]);rw [this] at hh;cases hh
 have hf':∀ r2 h2 g2 a2 w2,K r2 h2->Conc n X g2 r2 h2 a2 w2->Step X g' h' w' g2 h2 w2->Q .normal a2 w2:=
  fun r2 h2 g2 a2 w2 hK hc2 hst2=>hf r2 h2 g2 a2 w2 hK hc2 (hst.trans hc.cw.own hst2)
 have hun:unl all.length (L.setIfInBounds i true)<=fuel:=by have:=unl_set hlti hi.lsize.symm hil;omega
 cases hd:o.dst with
 | none=>
   rw [hd] at hset;have hi':=hi.enter (n:=n) (P:=P) (g:=[]) (v:=v) (ents':=ents) (nf':=nf) (h':=h') (L':=L.setIfInBounds i true) hs ho (by rw [hd]) (by simp) (.inr ⟨rfl,he⟩) hstab hown0;refine IH rest _ nf ents h' _ g' _ w' hi' hset ?_ hun hf';have hE:entL (L.setIfInBounds i true) ents=entL L ents:=by unfold entL;refine List.filter_congr fun x hx=>?_;exact getD_set_ne false (fun e=>hnk (e ▸ (hi.ent1 x hx).1))
   rw [hE];simpa [Act.put] using hc.step hcw hst
 | some d=>
   rw [hd] at hset;unfold setP at hset;simp only at hset;split at hset<;>try contradiction
   rename_i hdn;rw [Nat.blt_eq] at hdn;split at hset<;>try contradiction
   rename_i hni;have hnr:=notIn_entR (notIn_cons hni).2;have hi':=hi.enter (n:=n) (P:=P) (g:=[]) (v:=v) (ents':=(i,d,[],v)::ents) (nf':=nf) (h':=h') (L':=L.setIfInBounds i true) hs ho (by rw [hd]) (by simp) (.inr ⟨rfl,he⟩) hstab hown0;refine IH rest _ nf ((i,d,[],v)::ents) h' _ g' _ w' hi' hset ?_ hun hf';have hE:entL (L.setIfInBounds i true) ((i,d,[],v)::ents)=(i,d,[],v)::entL L ents:=by unfold entL;have h1:(L.setIfInBounds i true).getD i false=true:=(by simp [hlt]);rw [List.filter_cons,if_pos h1];congr 1;refine List.filter_congr fun x hx=>?_;exact getD_set_ne false (fun e=>hnk (e ▸ (hi.ent1 x hx).1))
   rw [hE];show Conc n X g' ((d,[],v)::entR (entL L ents) r) h' (a.put (some d) u) w';refine hc.put' hcw hst hdn (by simp) ?_ (fun _=>⟨by simp,hrep⟩) (fun hh=>absurd (fun e he=>by cases he) hh);intro t gg vv hl e hee hed;rcases look_entR hl with ⟨x,hx,ex⟩|hl
   ·obtain ⟨hx,hlx⟩:=mem_entL.1 hx;have hcx:=hi.path x hx e (by rw [ex];exact hee) i o ho (hed ▸ hd);exact hnk (hi.kn_clo hs (hi.ent1 x hx).1 hcx).1
   exact notIn_look hnr hl e hee hed
def nobit (cl:List Nat) (q:Nat):List Nat->Bool
 | []=>true
 | x::l=>match Nat.testBit (clN cl q) x with
   | true=>false
   | false=>nobit cl q l
def somebit (cl:List Nat) (q:Nat):List Nat->Bool
 | []=>false
 | x::l=>match Nat.testBit (clN cl q) x with
   | true=>true
   | false=>somebit cl q l
def allSome (cl ms:List Nat):List Nat->Bool
 | []=>true
 | q::l=>match somebit cl q ms with
   | true=>allSome cl ms l
   | false=>false
def apartB (cl ms:List Nat):List Nat->Bool
 | []=>true
 | m::l=>match nobit cl m ms with
   | true=>apartB cl ms l
   | false=>false
def pickF (cl:List Nat):List Nat->List Nat->Option (Nat × List Nat)
 | _,[]=>none
 | bef,q::l=>match nobit cl q bef with
   | true=>some (q,l)
   | false=>match pickF cl (q::bef) l with
     | some (x,l')=>some (x,q::l')
     | none=>none
def erase1 (m:Nat):List Nat->List Nat
 | []=>[]
 | x::l=>match Nat.beq x m with
   | true=>l
   | false=>x::erase1 m l
def eachM (G:Nat->Prop):List Nat->Prop
 | []=>True
 | m::l=>G m/\eachM G l
theorem nobit_ok {cl:List Nat} {q:Nat}:∀ {l:List Nat},nobit cl q l=true->∀ x∈l,Nat.testBit (clN cl q) x=false
 | [],_,x,hx=>by cases hx
 | y::l,h,x,hx=>by
   unfold nobit at h;split at h
   ·cases h
   rename_i hy;rcases List.mem_cons.1 hx with rfl|hx
   ·exact hy
   exact nobit_ok h x hx
theorem somebit_ok {cl:List Nat} {q:Nat}:∀ {l:List Nat},somebit cl q l=true->∃ x∈l,Cl cl q x
 | [],h=>by cases h
 | y::l,h=>by
   unfold somebit at h;split at h
   ·rename_i hy;exact ⟨y,by simp,hy⟩
   obtain ⟨x,h1,h2⟩:=somebit_ok h;exact ⟨x,by simp [h1],h2⟩
theorem allSome_ok {cl ms:List Nat}:∀ {l:List Nat},allSome cl ms l=true->∀ q∈l,∃ x∈ms,Cl cl q x
 | [],_,q,hq=>by cases hq
 | y::l,h,q,hq=>by
   unfold allSome at h;split at h
   ·rename_i hy;rcases List.mem_cons.1 hq with rfl|hq
    ·exact somebit_ok hy
    exact allSome_ok h q hq
   cases h
theorem apartB_ok {cl ms:List Nat}:∀ {l:List Nat},apartB cl ms l=true->∀ m∈l,∀ x∈ms,Nat.testBit (clN cl m) x=false
 | [],_,m,hm=>by cases hm
 | y::l,h,m,hm=>by
   unfold apartB at h;split at h
   ·rename_i hy;rcases List.mem_cons.1 hm with rfl|hm
    ·exact nobit_ok hy
    exact apartB_ok h m hm
   cases h
theorem pickF_ok {cl:List Nat} {q:Nat}:∀ {l bef l2:List Nat},pickF cl bef l=some (q,l2)->∃ b c,l=b++q::c/\l2=b++c/\(∀ x∈bef,Nat.testBit (clN cl q) x=false)/\∀ x∈b,Nat.testBit (clN cl q) x=false
 | [],bef,l2,h=>by cases h
 | y::l,bef,l2,h=>by
   unfold pickF at h;split at h
   ·rename_i hy;cases h
    exact ⟨[],l,rfl,rfl,nobit_ok hy,by simp⟩
   split at h
   ·rename_i x l' hx;cases h
    obtain ⟨b,c,rfl,rfl,h3,h4⟩:=pickF_ok hx;refine ⟨y::b,c,rfl,rfl,fun z hz=>h3 z (by simp [hz]),fun z hz=>?_⟩;rcases List.mem_cons.1 hz with rfl|hz
    ·exact h3 _ (by simp)
    exact h4 z hz
   cases h
theorem erase1_ok {m:Nat}:∀ {ms:List Nat},m∈ms->∃ a b,ms=a++m::b/\erase1 m ms=a++b
 | [],h=>by cases h
 | x::l,h=>by
   unfold erase1;split
   ·rename_i hx;have:=Nat.eq_of_beq_eq_true hx;subst this;exact ⟨[],l,rfl,rfl⟩
   rename_i hx;rcases List.mem_cons.1 h with rfl|h
   ·rw [Nat.beq_refl] at hx;cases hx
   obtain ⟨a,b,e1,e2⟩:=erase1_ok h;exact ⟨x::a,b,by rw [e1];rfl,by rw [e2];rfl⟩
theorem eachM_ok {G:Nat->Prop}:∀ {l:List Nat},eachM G l->∀ m∈l,G m
 | [],_,m,hm=>by cases hm
 | y::l,h,m,hm=>by
   rcases List.mem_cons.1 hm with rfl|hm
   ·exact h.1
   exact eachM_ok h.2 m hm
theorem eachM_mono {G G':Nat->Prop} (hg:∀ m,G m->G' m):∀ {l:List Nat},eachM G l->eachM G' l
 | [],_=>trivial
 | y::l,h=>⟨hg _ h.1,eachM_mono hg h.2⟩
theorem DrawS.front {i:Nat} {post:List Nat}:∀ {a kn:List Nat},DrawS all cl (kn++(a++i::post))->(∀ x∈a,Nat.testBit (clN cl i) x=false)->DrawS all cl (kn++(i::(a++post)))
 | [],kn,hs,_=>hs
 | x::a,kn,hs,h=>by have h1:DrawS all cl ((kn++[x])++(i::(a++post))):=DrawS.front (a:=a) (kn:=kn++[x]) (by simpa using hs) (fun y hy=>h y (by simp [hy]));have h2:DrawS all cl (kn++x::i::(a++post)):=(by simpa using h1);exact DrawS.swap h2 (h x (by simp))
def regM (P:Program) (c:Cfg) (n:Nat) (all:List Oper) (cl:List Nat) (K:Regs->Heap->Prop):Nat->List Nat->List Nat->List Nat->Regs->Heap->Prop
 | 0,_,_,_,_,_=>False
 | f+1,ms,rest,nf,r,h=>match ms with
   | []=>regD P c n all cl K rest nf r h
   | m0::ms0=>match pickF cl (m0::ms0) rest with
     | some (q,rest2)=>(match all[q]? with
       | none=>False
       | some o=>match loudD c o with
         | true=>regM P c n all cl K f (q::m0::ms0) rest2 nf r h
         | false=>entryQ P all r h (fun g v=>match pathOK cl all q g with
           | true=>setP n o.dst g v r fun r'=>regM P c n all cl K f (m0::ms0) rest2 (match hfree r g o.op with|true=>nf|false=>q::nf) r' h
           | false=>False) o)
     | none=>(apartB cl (m0::ms0) (m0::ms0)&&allSome cl (m0::ms0) rest)=true/\eachM (fun m=>match all[m]? with
       | none=>False
       | some o=>(o.guard.isNone&&((makes o.op||(calm r o.op&&nfOKc cl all m nf))||nf.isEmpty))=true/\opX P c.own c.lc o.dst r h (fun v h'=>setP n o.dst [] v r fun r'=>regM P c n all cl K f (erase1 m (m0::ms0)) rest nf r' h') o.op) (m0::ms0)
theorem draw_gameM {c:Cfg} {K:Regs->Heap->Prop} {Q:Exit->Act->World->Prop}:∀ (fuel f:Nat) (ord ms rest kn nf:List Nat) (ents:List (Nat × Nat × G × AV)) (h:Heap) (L:Array Bool) (g0:Gh) (a:Act) (w:World),DrawS all cl ord ->
  DInv n P all cl ord r kn (ms++rest) nf ents h L->regM P c n all cl K f ms rest nf (entR ents r) h->Conc n X g0 (entR (entL L ents) r) h a w->unl all.length L<=fuel ->
  (∀ r' h' g' a' w',K r' h'->Conc n X g' r' h' a' w'->Step X g0 h w g' h' w'->Q .normal a' w')->wpAny P .any all.toArray Q fuel L a w:=by
 intro fuel;induction fuel with
 | zero=>
   intro f ord ms rest kn nf ents h L g0 a w hs hi hr hc hu hf;have hall:=unl_zero (Nat.le_zero.1 hu);cases f with
   | zero=>exact hr.elim
   | succ f=>
   cases ms with
   | nil=>exact draw_game hs 0 rest kn nf ents h L g0 a w hi hr hc hu hf
   | cons x ms=>
     have hx:x∈ord:=by rw [hi.split];simp
     obtain ⟨hlt,_⟩:=hi.lt hs hx;have h1:=hi.lsub x (hall x (by rw [<- hi.lsize];exact hlt));have:=hs.p3;rw [hi.split,List.nodup_append] at this;exact absurd rfl (this.2.2 x h1 x (by simp))
 | succ fuel IH=>
   intro f;induction f with
   | zero=>intro ord ms rest kn nf ents h L g0 a w hs hi hr;exact hr.elim
   | succ f ihr=>
     intro ord ms rest kn nf ents h L g0 a w hs hi hr hc hu hf;cases ms with
     | nil=>exact draw_game hs (fuel+1) rest kn nf ents h L g0 a w hi hr hc hu hf
     | cons m0 ms0=>
     have hr0:=hr;unfold regM at hr;simp only at hr;split at hr
     · -- a quiet one,brought to the front
      rename_i k rest2 hpk;obtain ⟨b,c2,rfl,rfl,hb1,hb2⟩:=pickF_ok hpk
      have hs':DrawS all cl (kn++(k::(((m0::ms0)++b)++c2))):=DrawS.front (by have:=hs;rw [hi.split] at this;simpa using this) (fun x hx=>by
       rcases List.mem_append.1 hx with hx|hx
       ·exact hb1 x hx
       exact hb2 x hx)
      have hi:DInv n P all cl (kn++(k::(((m0::ms0)++b)++c2))) r kn (k::(((m0::ms0)++b)++c2)) nf ents h L:=⟨rfl,hi.lsize,hi.lsub,hi.lclosed,hi.ent1,hi.ent2,hi.ent3,hi.path,hi.fact⟩;have hs:=hs';have hko:k∈kn++(k::(((m0::ms0)++b)++c2)):=(by simp);have hnk:k ∉ kn:=by have:=hs.p3;rw [List.nodup_append] at this;exact fun hm=>this.2.2 k hm k (by simp) rfl
      obtain ⟨hlt,o,ho⟩:=hi.lt hs hko
      have hkl:L.getD k false=false:=by
       cases hb:L.getD k false with
       | false=>rfl
       | true=>exact absurd (hi.lsub k hb) hnk
      have hedge:∀ e∈o.after.toList,Region.binds .any e=true->e.on∈kn:=by obtain ⟨o2,ho2,hh⟩:=hs.p4 kn k _ hi.split;rw [ho] at ho2;cases ho2;exact hh
      have hclk:∀ j,Cl cl k j->j∈kn:=by
       intro j hj
       have:=(clo_closed hs (S:=fun i=>i∈kn\/i=k) (fun i hS=>by
        rcases hS with hS|rfl
        ·obtain ⟨o',ho',hh⟩:=hi.kn_closed hs i hS;exact ⟨o',ho',fun e a b=>.inl (hh e a b)⟩
        exact ⟨o,ho,fun e a b=>.inl (hedge e a b)⟩) k (.inr rfl) j hj)
       rcases this.1 with h|rfl
       ·exact h
       exact absurd this.2 (Nat.lt_irrefl _)
      have hlook:∀ t∈readsOf all o,Look all cl ents r k t (lookR (entR ents r) t):=by intro t ht;refine look_of hi hs ho (fun x hx=>hx) (fun j hj=>⟨hclk j hj,fun x hx _=>hx⟩) ?_ t ht;intro x hx hcx;exact hnk (hi.kn_clo hs (hi.ent1 x hx).1 hcx).1
      have e0:(((m0::ms0)++b)++c2)=(m0::ms0)++(b++c2):=(by simp);rw [e0] at hi hs;rw [ho] at hr;simp only at hr;split at hr
      ·exact ihr _ (k::m0::ms0) (b++c2) kn nf ents h L g0 a w hs hi hr hc hu hf
      obtain ⟨g,v,hKv,hE⟩:=entryQ_val hr;split at hKv<;>try contradiction
      rename_i hpath;have hpath:=pathOK_ok hpath;obtain ⟨nf2,hnf2⟩:∃ nf2,nf2=(match hfree (entR ents r) g o.op with|true=>nf|false=>k::nf):=⟨_,rfl⟩
      have hfr0:k ∉ nf2->∀ h',entryQ P all (entR ents r) h' (fun g' v'=>g'=g/\v'=v) o:=by
       intro hk' h';rw [hnf2] at hk';split at hk'
       ·rename_i hfr;exact entryQ_free hfr hE
       simp at hk'
      have hinc:∀ x∈nf,x∈nf2:=by
       intro x hx;rw [hnf2];split
       ·exact hx
       exact List.mem_cons_of_mem _ hx
      have hold:∀ k'∈kn,L.getD k' false=false->∃ o g v Rk,all[k']?=some o/\entryQ P all Rk h (fun g' v'=>g'=g/\v'=v) o /\
          (∀ t∈readsOf all o,Look all cl ents r k' t (lookR Rk t)) /\
          (∀ d,o.dst=some d->(k',d,g,v)∈ents/\d<n/\(∀ e∈g,e.1≠d)/\∀ t gg v,lookR r t=some (gg,v)->∀ e∈gg,e.1≠d) /\
          (k' ∉ nf2->∀ h',entryQ P all Rk h' (fun g' v'=>g'=g/\v'=v) o):=by
       intro k' hk' hl';obtain ⟨o',g2,v2,Rk,q1,q2,q3,q4,q5⟩:=hi.fact k' hk' hl';exact ⟨o',g2,v2,Rk,q1,q2,q3,q4,fun hh=>q5 fun hm=>hh (hinc _ hm)⟩
      cases hd:o.dst with
      | none=>
        rw [hd] at hKv
        have hi':=hi.enter (n:=n) (P:=P) (g:=g) (v:=v) (ents':=ents) (nf':=nf2) (h':=h) (L':=L) hs ho (by rw [hd]) hpath (.inl rfl) hold
         (fun _=>⟨o,g,v,entR ents r,ho,hE,hlook,fun d hd'=>(by rw [hd] at hd';cases hd'),hfr0⟩)
        exact ihr _ _ _ _ _ ents h L g0 a w hs hi' (by rw [hnf2];exact hKv) hc hu hf
      | some d=>
        rw [hd] at hKv;unfold setP at hKv;simp only at hKv;split at hKv<;>try contradiction
        rename_i hdn;rw [Nat.blt_eq] at hdn;split at hKv<;>try contradiction
        rename_i hni;obtain ⟨hn1,hn2⟩:=notIn_cons hni;have hnr:=notIn_entR hn2
        have hi':=hi.enter (n:=n) (P:=P) (g:=g) (v:=v) (ents':=(k,d,g,v)::ents) (nf':=nf2) (h':=h) (L':=L) hs ho (by rw [hd]) hpath (.inl rfl) hold
         (fun _=>⟨o,g,v,entR ents r,ho,hE,fun t ht=>(hlook t ht).more (fun x hx=>List.mem_cons_of_mem _ hx),
           fun d' hd'=>(by rw [hd] at hd';cases hd';exact ⟨List.mem_cons_self,hdn,hn1,fun t gg vv hl=>notIn_look hnr hl⟩),hfr0⟩)
        refine ihr _ _ _ _ _ ((k,d,g,v)::ents) h L g0 a w hs hi' (by rw [hnf2];exact hKv) ?_ hu hf;have hE:entL L ((k,d,g,v)::ents)=entL L ents:=by unfold entL;rw [List.filter_cons,if_neg (by simp only [hkl];exact Bool.false_ne_true)]
        rw [hE];exact hc
     -- those that are made
     obtain ⟨hcond,hE⟩:=hr;simp only [Bool.and_eq_true] at hcond;have hap:=apartB_ok hcond.1;have hlate:=allSome_ok hcond.2;have hm0:m0 ∉ kn:=by have:=hs.p3;rw [hi.split,List.nodup_append] at this;exact fun hm=>this.2.2 m0 hm m0 (by simp) rfl
     refine ⟨fun hre=>?_,fun i hm=>?_⟩
     ·have:=ready_none hi hs hre m0 (by rw [hi.split];simp);exact absurd (hi.lsub m0 this) hm0
     obtain ⟨m1,oi',hoi,m2⟩:=mem_ready.1 hm;have hoi':all[i]?=some oi':=(by simpa using hoi);have hlti:i<all.length:=(List.getElem?_eq_some_iff.1 hoi').1;have hil:L.getD i false=false:=by rw [<- getD_true_false (by rw [hi.lsize];exact hlti)];exact m1
     have he:∀ e∈oi'.after.toList,Region.binds .any e=true->L.getD e.on false=true:=fun e he hb=>m2 e (by simpa using he) hb
     have hclo:∀ j,Cl cl i j->L.getD j false=true:=by
      intro j hj
      have:=(clo_closed hs (S:=fun x=>L.getD x false=true\/x=i) (fun x hS=>by
       rcases hS with hS|rfl
       ·obtain ⟨o',ho',hh⟩:=hi.lclosed x hS;exact ⟨o',ho',fun e a b=>.inl (hh e a b)⟩
       exact ⟨oi',hoi',fun e a b=>.inl (he e a b)⟩) i (.inr rfl) j hj)
      rcases this.1 with h|rfl
      ·exact h
      exact absurd this.2 (Nat.lt_irrefl _)
     have hin:i∈kn\/i∈m0::ms0\/i∈rest:=by have:=hs.p2 i hlti;rw [hi.split] at this;simpa [or_assoc] using this
     rcases hin with hik|him|hir
     ·refine run_quiet hi hs hik hil (fun o2 ho2=>by rw [hoi'] at ho2;cases ho2;exact he) hc ?_;intro g' a' w' hc' hst
      exact IH (f+1) ord (m0::ms0) rest kn nf ents h _ g' a' w' hs (hi.list hik hoi' he) hr0 hc' (by have:=unl_set hlti hi.lsize.symm hil;omega)
       (fun r2 h2 g2 a2 w2 hK hc2 hst2=>hf r2 h2 g2 a2 w2 hK hc2 (hst.trans hc.cw.own hst2))
     ·have hA:=eachM_ok hE i him;rw [hoi'] at hA;simp only at hA;rw [Bool.and_eq_true,Option.isNone_iff_eq_none] at hA;obtain ⟨⟨hg1,ha1⟩,hA⟩:=hA;obtain ⟨a1,b1,e1,e2⟩:=erase1_ok him;have hs':DrawS all cl (kn++(i::(a1++(b1++rest)))):=DrawS.front (by have:=hs;rw [hi.split,e1] at this;simpa using this) (fun x hx=>hap i him x (by rw [e1];simp [hx]));have hi':DInv n P all cl (kn++(i::(a1++(b1++rest)))) r kn (i::(a1++(b1++rest))) nf ents h L:=⟨rfl,hi.lsize,hi.lsub,hi.lclosed,hi.ent1,hi.ent2,hi.ent3,hi.path,hi.fact⟩
      refine loud_step (Rg:=fun l nf r' h'=>l=erase1 i (m0::ms0)++rest/\regM P c n all cl K f (erase1 i (m0::ms0)) rest nf r' h') hs' hi' hoi' hoi hg1 ha1 hil he
       (opX_mono (fun v h'=>setP_mono fun r' hh=>⟨by rw [e2];simp,hh⟩) hA) hc hu ?_ hf
      rintro rest' kn nf ents h L g0 a w hi2 ⟨rfl,hr2⟩ hc2 hu2 hf2;exact IH f _ (erase1 i (m0::ms0)) rest kn nf ents h L g0 a w hs' hi2 hr2 hc2 hu2 hf2
     obtain ⟨x,hx,hcx⟩:=hlate i hir;have h1:=hclo x hcx;have h2:=hi.lsub x h1;have:=hs.p3;rw [hi.split,List.nodup_append] at this;exact absurd rfl (this.2.2 x h2 x (List.mem_append_left _ hx))
def rmk (P:Program) (c:Cfg) (n:Nat) (all:List Oper) (K:Regs->Heap->Prop):Nat->List Nat->List Nat->List Nat->Regs->Heap->Prop
 | 0,_,_,_,_,_=>False
 | f+1,ms,rest,nf,r,h=>match ms with
   | []=>rdraw P c n all K rest nf r h
   | m0::ms0=>match pickF (clos all []) (m0::ms0) rest with
     | some (q,rest2)=>(match all[q]? with
       | none=>False
       | some o=>match loudD c o with
         | true=>rmk P c n all K f (q::m0::ms0) rest2 nf r h
         | false=>entryQ P all r h (aftD (fun nf r h=>rmk P c n all K f (m0::ms0) rest2 nf r h) all q n o nf r h) o)
     | none=>(apartB (clos all []) (m0::ms0) (m0::ms0)&&allSome (clos all []) (m0::ms0) rest)=true/\eachM (fun m=>match all[m]? with
       | none=>False
       | some o=>(o.guard.isNone&&((makes o.op||(calm r o.op&&nfOKc (clos all []) all m nf))||nf.isEmpty))=true/\opX P c.own c.lc o.dst r h (aftL (rmk P c n all K f (erase1 m (m0::ms0)) rest nf) n o.dst r) o.op) (m0::ms0)
theorem rmk_ok {c:Cfg} {K:Regs->Heap->Prop}:∀ {f:Nat} {ms rest nf:List Nat} {r:Regs} {h:Heap},rmk P c n all K f ms rest nf r h->regM P c n all (clos all []) K f ms rest nf r h
 | 0,ms,rest,nf,r,h,hh=>hh.elim
 | f+1,ms,rest,nf,r,h,hh=>by
   unfold rmk at hh;unfold regM;cases ms with
   | nil=>exact rdraw_ok (fun _ _ h=>h) hh
   | cons m0 ms0=>
     simp only at hh ⊢;cases hp:pickF (clos all []) (m0::ms0) rest with
     | some x=>
       obtain ⟨q,rest2⟩:=x;rw [hp] at hh;simp only at hh ⊢;cases ho:all[q]? with
       | none=>rw [ho] at hh;exact hh.elim
       | some o=>
         rw [ho] at hh;simp only at hh ⊢;cases hl:loudD c o with
         | true=>rw [hl] at hh;exact rmk_ok hh
         | false=>
           rw [hl] at hh;simp only at hh ⊢;refine entryQ_mono (fun g v hv=>?_) hh;unfold aftD at hv;cases hp:pathOK (clos all []) all q g with
           | false=>rw [hp] at hv;exact hv.elim
           | true=>
             rw [hp] at hv;exact setP_mono (fun _=>rmk_ok) hv
     | none=>
       rw [hp] at hh;simp only at hh ⊢;refine ⟨hh.1,eachM_mono (fun m hm=>?_) hh.2⟩;cases ho:all[m]? with
       | none=>rw [ho] at hm;exact hm.elim
       | some o=>
         rw [ho] at hm;exact ⟨hm.1,opX_mono (fun v h'=>aftL_mono fun _ _=>rmk_ok) hm.2⟩
def rpre (P:Program) (c:Cfg) (n:Nat) (all:List Oper) (K:Regs->Heap->Prop) (ms post:List Nat):List Nat->List Nat->Regs->Heap->Prop
 | [],nf,r,h=>rmk P c n all K 100 ms post nf r h
 | i::pre,nf,r,h=>match all[i]? with
   | none=>False
   | some o=>match loudD c o with
     | true=>False
     | false=>entryQ P all r h (aftD (rpre P c n all K ms post pre) all i n o nf r h) o
theorem draw_gameP {c:Cfg} {K:Regs->Heap->Prop} {Q:Exit->Act->World->Prop} {ms post:List Nat} {fuel:Nat} {g0:Gh} {a:Act} {w:World} {L:Array Bool} (hs:DrawS all (clos all []) ord):∀ (pre kn nf:List Nat) (ents:List (Nat × Nat × G × AV)) (h:Heap),
  DInv n P all (clos all []) ord r kn (pre++(ms++post)) nf ents h L->rpre P c n all K ms post pre nf (entR ents r) h->Conc n X g0 (entR (entL L ents) r) h a w->unl all.length L<=fuel ->
  (∀ r' h' g' a' w',K r' h'->Conc n X g' r' h' a' w'->Step X g0 h w g' h' w'->Q .normal a' w')->wpAny P .any all.toArray Q fuel L a w:=by
 intro pre;induction pre with
 | nil=>intro kn nf ents h hi hr hc hu hf;exact draw_gameM fuel 100 ord ms post kn nf ents h L g0 a w hs hi (rmk_ok hr) hc hu hf
 | cons k pre ihr=>
   intro kn nf ents h hi hr hc hu hf;have hko:k∈ord:=by rw [hi.split];simp
   have hnk:k ∉ kn:=by have:=hs.p3;rw [hi.split,List.nodup_append] at this;exact fun hm=>this.2.2 k hm k (by simp) rfl
   obtain ⟨hlt,o,ho⟩:=hi.lt hs hko
   have hkl:L.getD k false=false:=by
    cases hb:L.getD k false with
    | false=>rfl
    | true=>exact absurd (hi.lsub k hb) hnk
   have hedge:∀ e∈o.after.toList,Region.binds .any e=true->e.on∈kn:=by obtain ⟨o2,ho2,hh⟩:=hs.p4 kn k _ hi.split;rw [ho] at ho2;cases ho2;exact hh
   have hclk:∀ j,Cl (clos all []) k j->j∈kn:=by
    intro j hj
    have:=(clo_closed hs (S:=fun i=>i∈kn\/i=k) (fun i hS=>by
     rcases hS with hS|rfl
     ·obtain ⟨o',ho',hh⟩:=hi.kn_closed hs i hS;exact ⟨o',ho',fun e a b=>.inl (hh e a b)⟩
     exact ⟨o,ho,fun e a b=>.inl (hedge e a b)⟩) k (.inr rfl) j hj)
    rcases this.1 with h|rfl
    ·exact h
    exact absurd this.2 (Nat.lt_irrefl _)
   have hlook:∀ t∈readsOf all o,Look all (clos all []) ents r k t (lookR (entR ents r) t):=by intro t ht;refine look_of hi hs ho (fun x hx=>hx) (fun j hj=>⟨hclk j hj,fun x hx _=>hx⟩) ?_ t ht;intro x hx hcx;exact hnk (hi.kn_clo hs (hi.ent1 x hx).1 hcx).1
   unfold rpre at hr;rw [ho] at hr;simp only at hr;split at hr<;>try contradiction
   obtain ⟨g,v,hKv,hE⟩:=entryQ_val hr;unfold aftD at hKv;split at hKv<;>try contradiction
   rename_i hpath;have hpath:=pathOK_ok hpath;obtain ⟨nf2,hnf2⟩:∃ nf2,nf2=(match hfree (entR ents r) g o.op with|true=>nf|false=>k::nf):=⟨_,rfl⟩
   have hfr0:k ∉ nf2->∀ h',entryQ P all (entR ents r) h' (fun g' v'=>g'=g/\v'=v) o:=by
    intro hk' h';rw [hnf2] at hk';split at hk'
    ·rename_i hfr;exact entryQ_free hfr hE
    simp at hk'
   have hinc:∀ x∈nf,x∈nf2:=by
    intro x hx;rw [hnf2];split
    ·exact hx
    exact List.mem_cons_of_mem _ hx
   have hold:∀ k'∈kn,L.getD k' false=false->∃ o g v Rk,all[k']?=some o/\entryQ P all Rk h (fun g' v'=>g'=g/\v'=v) o /\
       (∀ t∈readsOf all o,Look all (clos all []) ents r k' t (lookR Rk t)) /\
       (∀ d,o.dst=some d->(k',d,g,v)∈ents/\d<n/\(∀ e∈g,e.1≠d)/\∀ t gg v,lookR r t=some (gg,v)->∀ e∈gg,e.1≠d) /\
       (k' ∉ nf2->∀ h',entryQ P all Rk h' (fun g' v'=>g'=g/\v'=v) o):=by
    intro k' hk' hl';obtain ⟨o',g2,v2,Rk,q1,q2,q3,q4,q5⟩:=hi.fact k' hk' hl';exact ⟨o',g2,v2,Rk,q1,q2,q3,q4,fun hh=>q5 fun hm=>hh (hinc _ hm)⟩
   cases hd:o.dst with
   | none=>
     rw [hd] at hKv
     have hi':=hi.enter (n:=n) (P:=P) (g:=g) (v:=v) (ents':=ents) (nf':=nf2) (h':=h) (L':=L) hs ho (by rw [hd]) hpath (.inl rfl) hold
      (fun _=>⟨o,g,v,entR ents r,ho,hE,hlook,fun d hd'=>(by rw [hd] at hd';cases hd'),hfr0⟩)
     exact ihr _ _ ents h hi' (by rw [hnf2];exact hKv) hc hu hf
   | some d=>
     rw [hd] at hKv;unfold setP at hKv;simp only at hKv;split at hKv<;>try contradiction
     rename_i hdn;rw [Nat.blt_eq] at hdn;split at hKv<;>try contradiction
     rename_i hni;obtain ⟨hn1,hn2⟩:=notIn_cons hni;have hnr:=notIn_entR hn2
     have hi':=hi.enter (n:=n) (P:=P) (g:=g) (v:=v) (ents':=(k,d,g,v)::ents) (nf':=nf2) (h':=h) (L':=L) hs ho (by rw [hd]) hpath (.inl rfl) hold
      (fun _=>⟨o,g,v,entR ents r,ho,hE,fun t ht=>(hlook t ht).more (fun x hx=>List.mem_cons_of_mem _ hx),
        fun d' hd'=>(by rw [hd] at hd';cases hd';exact ⟨List.mem_cons_self,hdn,hn1,fun t gg vv hl=>notIn_look hnr hl⟩),hfr0⟩)
     refine ihr _ _ ((k,d,g,v)::ents) h hi' (by rw [hnf2];exact hKv) ?_ hu hf;have hE:entL L ((k,d,g,v)::ents)=entL L ents:=by unfold entL;rw [List.filter_cons,if_neg (by simp only [hkl];exact Bool.false_ne_true)]
     rw [hE];exact hc
theorem make_region {c:Cfg} {F:Func} {E:En} {p:List Bool} {S:List Fr} {k id:Nat} {ops:Array Oper} {r:Regs} {h:Heap} (hcat:cat F p=.region id ops true) (hm:P.follows .mixedOrders=true) (pre ms post:List Nat) (fz:List Nat)
  (hd:drawOK (opsAt F p) (pre++(ms++post))=true)
  (hr:rpre P c E.n (opsAt F p) (fun r' h'=>frzP (fun r'' h''=>normK r'' (fun r3=>TurnTo (run P c F E k (.ex .normal) S) r3 h'') c.keep) fz r' h') ms post pre [] r h) :
  Holds P E.n E.X (cat F p) (fun e r h=>run P c F E k (.ex e) S r h) r h:=by
 have ho:=opsAt_eq hcat;rw [ho] at hd hr;rw [hcat];refine ⟨fun g a w hc=>?_⟩;refine wp_region_any hm ?_;obtain ⟨dc,ds⟩:=hc.cw.drew;have hs:=drawS hd;have hc':Conc E.n E.X g r h a w.drew:=hc.step dc ds
 have hi:DInv E.n P ops.toList (clos ops.toList []) (pre++(ms++post)) r [] (pre++(ms++post)) [] [] h (Array.replicate ops.size false):=by
  have hrep:∀ i,(Array.replicate ops.size false).getD i false=false:=by intro i;by_cases hi:i<ops.size<;>simp [hi]
  refine ⟨rfl,by simp,?_,?_,by simp,by simp,by simp,by simp,by simp⟩
  ·intro i hL;rw [hrep i] at hL;cases hL
  intro i hL;rw [hrep i] at hL;cases hL
 have:=draw_gameP (n:=E.n) (X:=E.X) (r:=r) (c:=c) (fuel:=ops.size) (g0:=g) (a:=a) (w:=w.drew) (L:=Array.replicate ops.size false) (Q:=fun e a' w'=>∃ ex g' r' h',e=Ex.toExit ex/\run P c F E k (.ex ex) S r' h'/\Conc E.n E.X g' r' h' a' w'/\Step E.X g h w g' h' w') hs pre [] [] [] h
  hi hr hc' (by unfold unl;exact Nat.le_trans (List.length_filter_le _ _) (by simp)) (by
   intro r' h' g' a' w' hK hc2 hst;obtain ⟨r2,h2,hK,hc3,hst3⟩:=frzP_ok hK hc2;obtain ⟨r3,hK,hl⟩:=normK_ok (k:=fun r3=>TurnTo (run P c F E k (.ex .normal) S) r3 h2) hK;obtain ⟨r4,h4,ht,hK⟩:=hK;obtain ⟨g4,hc4,hst4⟩:=ht _ _ _ _ _ (hc3.less hl);exact ⟨.normal,g4,r4,h4,rfl,hK,hc4,ds.trans hc.cw.own (hst.trans hc'.cw.own (hst3.trans hc2.cw.own hst4))⟩)
 exact this
end Go.Abs
/-
 The abstract layer,part W: loops gone through step by step,where everything is known.
-/
namespace Go.Abs
open Go
def ksOf:Regs->List Nat->List Nat
 | [],_=>[]
 | (t,[],_)::r,seen=>match memN seen t with
   | true=>ksOf r seen
   | false=>t::ksOf r (t::seen)
 | (t,_::_,_)::r,seen=>ksOf r (t::seen)
def UL (P:Program) (c:Cfg) (F:Func) (E:En) (k:Nat) (p:List Bool) (S:List Fr) (ks:List Nat):Nat->Regs->Heap->Prop
 | 0,_,_=>False
 | n+1,r,h=>UL P c F E k p S ks n r h\/run P c F E k (.go (false::p)) (.head (atHead ks [] (UL P c F E k p S ks n))::S) r h
theorem UL_eq {P:Program} {c:Cfg} {F:Func} {E:En} {k:Nat} {p:List Bool} {S:List Fr} {ks:List Nat} (m:Nat) :
  UL P c F E k p S ks m=fun r h=>∃ m',m'<m/\run P c F E k (.go (false::p)) (.head (atHead ks [] (UL P c F E k p S ks m'))::S) r h:=by
 induction m with
 | zero=>funext r h;simp [UL]
 | succ m ih=>
   funext r h;refine propext ⟨?_,?_⟩
   ·intro hh;unfold UL at hh;rcases hh with hh|hh
    ·rw [ih] at hh;obtain ⟨m',h1,h2⟩:=hh;exact ⟨m',by omega,h2⟩
    exact ⟨m,by omega,hh⟩
   rintro ⟨m',h1,h2⟩;unfold UL;by_cases e:m'=m
   ·subst e;exact .inr h2
   refine .inl ?_;rw [ih];exact ⟨m',by omega,h2⟩
theorem uloop {P:Program} {c:Cfg} {F:Func} {E:En} {p:List Bool} {S:List Fr} {k:Nat} {body:Code} {r:Regs} {h:Heap} (N:Nat) (hcat:cat F p=.loop body) (hm:P.follows .mixedOrders=true)
  (h0:atHead (ksOf r []) [] (UL P c F E k p S (ksOf r []) N) r h) :
  Holds P E.n E.X (cat F p) (fun e r h=>run P c F E k (.ex e) S r h) r h:=by
 refine sloop hcat hm (ksOf r []) [] (fun m r' h'=>run P c F E k (.go (false::p)) (.head (atHead (ksOf r []) [] (UL P c F E k p S (ksOf r []) m))::S) r' h') ?_ ?_
 ·rw [UL_eq] at h0;unfold atHead at h0 ⊢;exact normK_mono (fun r' hh=>let ⟨m,_,h2⟩:=hh;⟨m,h2⟩) h0
 intro m r' h' hJ;rw [UL_eq] at hJ;exact hJ
end Go.Abs
set_option maxRecDepth 100000
set_option maxHeartbeats 2000000
namespace Go.Abs.Wall
open Go Go.Abs Go.Proofs
theorem mixed:Tryz.prog.follows .mixedOrders=true:=by decide
theorem within (n low high:Int):QCall Tryz.prog 60 [.int .i64 n,.int .i64 low,.int .i64 high] [] (.bool (decide (low<=n)&&decide (n<=high))):=by refine acalls (fn:=Tryz.f60) (code:=(Tryz.f60.body.getD .skip)) (c:=⟨[0,1,2,6],[],[],[],[],[]⟩) rfl rfl rfl mixed (by simp [Tryz.f60]) fun X=>?_;(conv=>whnf);exact ⟨rfl,rfl⟩
theorem lwithin (n low high:Int):QCall Tryz.prog 95 [.int .i64 n,.int .i64 low,.int .i64 high] [] (.bool (decide (low<=n)&&decide (n<=high))):=by refine acalls (fn:=Tryz.f95) (code:=(Tryz.f95.body.getD .skip)) (c:=⟨[0,1,2,6],[],[],[],[],[]⟩) rfl rfl rfl mixed (by simp [Tryz.f95]) fun X=>?_;(conv=>whnf);exact ⟨rfl,rfl⟩
end Go.Abs.Wall
namespace Go.Abs.Wall
open Go Go.Abs Go.Proofs
theorem map_get {α:Type} {enc:α->List AV} {l:List α} {i:Nat} (h:i<l.length):(l.map enc)[i]?=some (enc l[i]):=by simp [List.getElem?_eq_getElem h]
def big (y:UInt8):Bool:=decide (65<=y.toNat)&&decide (y.toNat<=90)
def small (y:UInt8):Bool:=decide (97<=y.toNat)&&decide (y.toNat<=122)
def digit (y:UInt8):Bool:=decide (48<=y.toNat)&&decide (y.toNat<=57)
def alnum (y:UInt8):Bool:=big y||small y||digit y
def codeOK (s:List UInt8):Bool:=decide (1<=s.length)&&decide (s.length<=8)&&big (s[0]?.getD 0)&&s.all alnum
def c44:Cfg:=⟨[0,2,3,4,22,26,54],[],[],[],[],[]⟩
theorem le_cast (a:Nat) (y:UInt8):decide ((a:Int)<=(y.toNat:Int))=decide (a<=y.toNat):=by rw [decide_eq_decide];omega
theorem le_cast' (a:Nat) (y:UInt8):decide ((y.toNat:Int)<=(a:Int))=decide (y.toNat<=a):=by rw [decide_eq_decide];omega
theorem validCode (s:List UInt8) (hs:s.length<=LMAX):QCall Tryz.prog 44 [.str s] [] (.bool (codeOK s)):=by
 refine acalls (fn:=Tryz.f44) (code:=(Tryz.f44.body.getD .skip)) (c:=c44) rfl rfl rfl mixed (by simp [Tryz.f44]) fun X=>?_;unfold LMAX at hs;have h0:¬ (s.length:Int)<1->((0:Int)=((0:Nat):Int)/\s[0]?=some (s[0]?.getD 0)):=by intro h;refine ⟨rfl,?_⟩;rw [List.getElem?_eq_getElem (show 0<s.length by omega)];rfl
 (conv=>whnf);refine ⟨0,s[0]?.getD 0,fun h1=>?_,?_⟩
 ·have h1:(decide ((s.length:Int)<1)||decide (8<(s.length:Int)))=false:=h1;simp only [Bool.or_eq_false_iff,decide_eq_false_iff_not] at h1;exact h0 h1.1
 (conv=>whnf);refine ⟨0,s[0]?.getD 0,fun h1=>?_,?_⟩
 ·have h1:(decide ((s.length:Int)<1)||decide (8<(s.length:Int))||decide (((s[0]?.getD 0).toNat:Int)<65))=false:=h1;simp only [Bool.or_eq_false_iff,decide_eq_false_iff_not] at h1;exact h0 h1.1.1
 (conv=>whnf);refine ⟨fun hc=>?_,fun hc=>?_⟩
 ·have hc:(decide ((s.length:Int)<1)||decide (8<(s.length:Int))||decide (((s[0]?.getD 0).toNat:Int)<65)||decide (90<((s[0]?.getD 0).toNat:Int)))=true:=hc;(conv=>whnf);refine ⟨congrArg AV.bool ?_,rfl⟩;symm;simp only [Bool.or_eq_true,decide_eq_true_eq] at hc;unfold codeOK big;simp only [Bool.and_eq_false_iff,decide_eq_false_iff_not];omega
 have hc:(decide ((s.length:Int)<1)||decide (8<(s.length:Int))||decide (((s[0]?.getD 0).toNat:Int)<65)||decide (90<((s[0]?.getD 0).toNat:Int)))=false:=hc;simp only [Bool.or_eq_false_iff,decide_eq_false_iff_not] at hc;have hpre:(decide (1<=s.length)&&decide (s.length<=8)&&big (s[0]?.getD 0))=true:=by unfold big;simp only [Bool.and_eq_true,decide_eq_true_eq];omega
 (conv=>whnf);refine loop_ok (c:=c44) mixed [0,3] [] (fun m r h=>∃ i:Nat,r=[(0,[],.str s),(3,[],.int .i64 i)]/\h=[]/\m=s.length - i/\i<=s.length/\∀ j y,j<i->s[j]?=some y->alnum y=true) ?_ ?_
 ·(conv=>whnf);exact ⟨_,0,rfl,rfl,rfl,by omega,by intro j y hj;omega⟩
 rintro m r h ⟨i,rfl,rfl,rfl,hi,hg⟩;(conv=>whnf);refine ⟨fun hb=>?_,fun hb=>?_⟩
 ·have hb:(i:Int)<(s.length:Int):=of_decide_eq_true hb;have hlt:i<s.length:=(by omega);have hx:=List.getElem?_eq_getElem hlt;(conv=>whnf);refine ⟨i,s[i],⟨rfl,hx⟩,?_⟩
  have e:((decide ((65:Int)<=(s[i].toNat:Int))&&decide ((s[i].toNat:Int)<=90))||(decide ((97:Int)<=(s[i].toNat:Int))&&decide ((s[i].toNat:Int)<=122)) ||
    (decide ((48:Int)<=(s[i].toNat:Int))&&decide ((s[i].toNat:Int)<=57)))=alnum s[i]:=by
   unfold alnum big small digit;rw [<- le_cast,<- le_cast,<- le_cast,<- le_cast',<- le_cast',<- le_cast'];rfl
  (conv=>whnf);refine ⟨fun hc=>?_,fun hc=>?_⟩
  ·have hc:(!((decide ((65:Int)<=(s[i].toNat:Int))&&decide ((s[i].toNat:Int)<=90))||(decide ((97:Int)<=(s[i].toNat:Int))&&decide ((s[i].toNat:Int)<=122)) ||
    (decide ((48:Int)<=(s[i].toNat:Int))&&decide ((s[i].toNat:Int)<=57))))=true:=hc
   rw [e] at hc;(conv=>whnf);refine ⟨congrArg AV.bool ?_,rfl⟩;symm;unfold codeOK;rw [Bool.and_eq_false_iff];right;rw [List.all_eq_false];exact ⟨s[i],List.getElem_mem hlt,by simpa using hc⟩
  have hc:(!((decide ((65:Int)<=(s[i].toNat:Int))&&decide ((s[i].toNat:Int)<=90))||(decide ((97:Int)<=(s[i].toNat:Int))&&decide ((s[i].toNat:Int)<=122)) ||
   (decide ((48:Int)<=(s[i].toNat:Int))&&decide ((s[i].toNat:Int)<=57))))=false:=hc
  rw [e] at hc;(conv=>whnf);refine ⟨⟨by omega,by omega⟩,?_⟩;(conv=>whnf);refine ⟨s.length - (i+1),by omega,i+1,rfl,rfl,rfl,by omega,fun j y hj hy=>?_⟩;rcases Nat.lt_succ_iff_lt_or_eq.1 hj with h|rfl
  ·exact hg j y h hy
  rw [hx] at hy;cases hy;simpa using hc
 have hb:¬ (i:Int)<(s.length:Int):=of_decide_eq_false hb;(conv=>whnf);refine ⟨congrArg AV.bool ?_,rfl⟩;symm;unfold codeOK;rw [hpre,Bool.true_and,List.all_eq_true];intro y hy;obtain ⟨j,hj,rfl⟩:=List.getElem_of_mem hy;exact hg j _ (by omega) (List.getElem?_eq_getElem hj)
end Go.Abs.Wall
namespace Go.Abs.Wall
open Go Go.Abs Go.Proofs
structure Val where
 kind:Int
 text:List UInt8
 fr:Int
 to:Int
def encVal (v:Val):List AV:=[.int .i64 v.kind,.str v.text,.int .i64 v.fr,.int .i64 v.to]
def c109:Cfg:=⟨[0,1,2],[],[2],[],[],[]⟩
theorem of (v:Val):QCall Tryz.prog 109 [.agg (encVal v)] [] (.agg [.int .i64 v.kind,.str v.text]):=by refine acalls (fn:=Tryz.f109) (code:=(Tryz.f109.body.getD .skip)) (c:=c109) rfl rfl rfl mixed (by simp [Tryz.f109]) fun X=>?_;(conv=>whnf);intro b;(conv=>whnf);refine ⟨_,_,Rem.here _,⟨by simp,rfl⟩,?_⟩;(conv=>whnf);exact ⟨rfl,rfl⟩
def meetB (a b:Val):Bool:=(decide (a.kind=b.kind)&&(decide (a.text=b.text)&&true))&&decide (a.fr<=b.to)&&decide (b.fr<=a.to)
def c80:Cfg:=⟨[0,1,2,3,4],[],[],[],[(1,[0,1,2,3,4,5,6,7,8,9,10,11,12,13,14,15,16,17,18,19],[])],[]⟩
theorem meet (a b:Val):QCall Tryz.prog 80 [.agg (encVal a),.agg (encVal b)] [] (.bool (meetB a b)):=by refine acalls (fn:=Tryz.f80) (code:=(Tryz.f80.body.getD .skip)) (c:=c80) rfl rfl rfl mixed (by simp [Tryz.f80]) fun X=>?_;(conv=>whnf);refine ⟨rfl,?_⟩;(conv=>whnf);refine ⟨_,(of a).wide _,?_⟩;(conv=>whnf);refine ⟨_,(of b).wide _,?_⟩;(conv=>whnf);refine ⟨by decide +kernel,?_⟩;(conv=>whnf);exact ⟨rfl,rfl⟩
def c79:Cfg:=⟨[0,1,2,3],[],[],[],[],[]⟩
theorem meetF (v w:Val):QCall Tryz.prog 79 [.agg (encVal w),.iptr (encVal v)] [] (.bool (meetB v w)):=by refine acalls (fn:=Tryz.f79) (code:=(Tryz.f79.body.getD .skip)) (c:=c79) rfl rfl rfl mixed (by simp [Tryz.f79]) fun X=>?_;(conv=>whnf);refine QCall.k0 (meet v w) ?_;(conv=>whnf);exact ⟨rfl,rfl⟩
def firstI {α:Type} (p:α->Bool) (l:List α):Int:=
 match l.findIdx? p with
 | some i=>(i:Int)
 | none=>-1
theorem firstI_some {α:Type} {p:α->Bool} {l:List α} {i:Nat} (h:i<l.length) (hp:p l[i]=true) (hb:∀ j (hj:j<i),p (l[j]'(by omega))=false):firstI p l=(i:Int):=by
 unfold firstI;have:l.findIdx? p=some i:=by rw [List.findIdx?_eq_some_iff_getElem];exact ⟨h,hp,fun j hj=>by simp [hb j hj]⟩
 rw [this]
theorem firstI_none {α:Type} {p:α->Bool} {l:List α} (hb:∀ j (hj:j<l.length),p l[j]=false):firstI p l = -1:=by
 unfold firstI;have:l.findIdx? p=none:=by rw [List.findIdx?_eq_none_iff];intro x hx;obtain ⟨j,hj,rfl⟩:=List.getElem_of_mem hx;exact hb j hj
 rw [this]
def c108:Cfg:=⟨[0,1,4,5,7,8,9,16],[],[],[],[],[]⟩
theorem indexFuncV (l:List Val) (hl:l.length<=LMAX) (f:FuncId) (caps:List AV) (p:Val->Bool) (hp:∀ w∈l,QCall Tryz.prog f (.agg (encVal w)::caps) [] (.bool (p w))) :
  QCall Tryz.prog 108 [.sl 4 none (l.map encVal),.fn f caps] [] (.int .i64 (firstI p l)):=by
 refine acalls (fn:=Tryz.f108) (code:=(Tryz.f108.body.getD .skip)) (c:=c108) rfl rfl rfl mixed (by simp [Tryz.f108]) fun X=>?_;unfold LMAX at hl;(conv=>whnf);refine loop_ok (c:=c108) mixed [0,1,7,8] [] (fun m r h=>∃ i:Nat,r=[(0,[],.sl 4 none (l.map encVal)),(1,[],.fn f caps),(7,[],.int .i64 (l.map encVal).length),(8,[],.int .i64 i)]/\h=[]/\m=l.length - i/\i<=l.length/\∀ j (hj:j<i) (hj':j<l.length),p l[j]=false) ?_ ?_
 ·(conv=>whnf);exact ⟨_,0,rfl,rfl,rfl,by omega,by intro j hj;omega⟩
 rintro m r h ⟨i,rfl,rfl,rfl,hi,hg⟩;(conv=>whnf);refine ⟨fun hb=>?_,fun hb=>?_⟩
 ·have hb:(i:Int)<((l.map encVal).length:Int):=of_decide_eq_true hb;rw [List.length_map] at hb;have hlt:i<l.length:=(by omega);(conv=>whnf);refine ⟨i,encVal l[i],⟨rfl,map_get hlt⟩,?_⟩;(conv=>whnf);refine QCall.k0 (hp l[i] (List.getElem_mem hlt)) ?_;(conv=>whnf);refine ⟨fun hc=>?_,fun hc=>?_⟩
  ·have hc:p l[i]=true:=hc;(conv=>whnf);exact ⟨by rw [firstI_some hlt hc (fun j hj=>hg j hj (by omega))],rfl⟩
  have hc:p l[i]=false:=hc;(conv=>whnf);refine ⟨⟨by omega,by omega⟩,?_⟩;(conv=>whnf);refine ⟨l.length - (i+1),by omega,i+1,rfl,rfl,rfl,by omega,fun j hj hj'=>?_⟩;rcases Nat.lt_succ_iff_lt_or_eq.1 hj with h|rfl
  ·exact hg j h hj'
  exact hc
 have hb:¬ (i:Int)<((l.map encVal).length:Int):=of_decide_eq_false hb;rw [List.length_map] at hb;(conv=>whnf);exact ⟨by rw [firstI_none (fun j hj=>hg j (by omega) hj)],rfl⟩
theorem firstI_any {α:Type} (p:α->Bool) (l:List α):decide (0<=firstI p l)=l.any p:=by
 unfold firstI;cases h:l.findIdx? p with
 | none=>
   rw [List.findIdx?_eq_none_iff] at h;have:l.any p=false:=by rw [List.any_eq_false];intro x hx;simp [h x hx]
   rw [this];rfl
 | some i=>
   rw [List.findIdx?_eq_some_iff_getElem] at h;obtain ⟨h1,h2,_⟩:=h;have:l.any p=true:=by rw [List.any_eq_true];exact ⟨l[i],List.getElem_mem h1,h2⟩
   rw [this];exact decide_eq_true (by show (0:Int)<=(i:Int);omega)
def c78:Cfg:=⟨[0,1,4],[],[],[],[],[]⟩
theorem containsFuncV (l:List Val) (hl:l.length<=LMAX) (f:FuncId) (caps:List AV) (p:Val->Bool) (hp:∀ w∈l,QCall Tryz.prog f (.agg (encVal w)::caps) [] (.bool (p w))) :
  QCall Tryz.prog 78 [.sl 4 none (l.map encVal),.fn f caps] [] (.bool (l.any p)):=by
 refine acalls (fn:=Tryz.f78) (code:=(Tryz.f78.body.getD .skip)) (c:=c78) rfl rfl rfl mixed (by simp [Tryz.f78]) fun X=>?_;(conv=>whnf);refine QCall.k0 (indexFuncV l hl f caps p hp) ?_;(conv=>whnf);exact ⟨congrArg AV.bool (firstI_any p l),rfl⟩
def textCh (kind:Int) (y:UInt8):Bool:=small y||(!decide (kind=3)&&big y)
def textOK (kind:Int) (s:List UInt8):Bool:=decide (1<=s.length)&&decide (s.length<=8)&&s.all (textCh kind)
def c77:Cfg:=⟨[0,1,4,5,6,14,18,42],[],[],[],[],[]⟩
theorem validText (kind:Int) (s:List UInt8) (hs:s.length<=LMAX):QCall Tryz.prog 77 [.int .i64 kind,.str s] [] (.bool (textOK kind s)):=by
 refine acalls (fn:=Tryz.f77) (code:=(Tryz.f77.body.getD .skip)) (c:=c77) rfl rfl rfl mixed (by simp [Tryz.f77]) fun X=>?_;unfold LMAX at hs;(conv=>whnf);refine ⟨fun hc=>?_,fun hc=>?_⟩
 ·have hc:(decide ((s.length:Int)<1)||decide (8<(s.length:Int)))=true:=hc;(conv=>whnf);refine ⟨congrArg AV.bool ?_,rfl⟩;symm;simp only [Bool.or_eq_true,decide_eq_true_eq] at hc;unfold textOK;simp only [Bool.and_eq_false_iff,decide_eq_false_iff_not];omega
 have hc:(decide ((s.length:Int)<1)||decide (8<(s.length:Int)))=false:=hc;simp only [Bool.or_eq_false_iff,decide_eq_false_iff_not] at hc;have hpre:(decide (1<=s.length)&&decide (s.length<=8))=true:=by simp only [Bool.and_eq_true,decide_eq_true_eq];omega
 (conv=>whnf);refine loop_ok (c:=c77) mixed [0,1,5] [] (fun m r h=>∃ i:Nat,r=[(0,[],.int .i64 kind),(1,[],.str s),(5,[],.int .i64 i)]/\h=[]/\m=s.length - i/\i<=s.length/\∀ j y,j<i->s[j]?=some y->textCh kind y=true) ?_ ?_
 ·(conv=>whnf);exact ⟨_,0,rfl,rfl,rfl,by omega,by intro j y hj;omega⟩
 rintro m r h ⟨i,rfl,rfl,rfl,hi,hg⟩;(conv=>whnf);refine ⟨fun hb=>?_,fun hb=>?_⟩
 ·have hb:(i:Int)<(s.length:Int):=of_decide_eq_true hb;have hlt:i<s.length:=(by omega);have hx:=List.getElem?_eq_getElem hlt;(conv=>whnf);refine ⟨i,s[i],⟨rfl,hx⟩,?_⟩
  have e:((decide ((97:Int)<=(s[i].toNat:Int))&&decide ((s[i].toNat:Int)<=122))||((!decide (kind=3)&&decide ((65:Int)<=(s[i].toNat:Int)))&&decide ((s[i].toNat:Int)<=90)))=textCh kind s[i]:=by unfold textCh big small;rw [<- le_cast,<- le_cast,<- le_cast',<- le_cast',Bool.and_assoc];rfl
  (conv=>whnf);refine ⟨fun hc=>?_,fun hc=>?_⟩
  ·have hc:(!((decide ((97:Int)<=(s[i].toNat:Int))&&decide ((s[i].toNat:Int)<=122))||((!decide (kind=3)&&decide ((65:Int)<=(s[i].toNat:Int)))&&decide ((s[i].toNat:Int)<=90))))=true:=hc;rw [e] at hc;(conv=>whnf);refine ⟨congrArg AV.bool ?_,rfl⟩;symm;unfold textOK;rw [Bool.and_eq_false_iff];right;rw [List.all_eq_false];exact ⟨s[i],List.getElem_mem hlt,by simpa using hc⟩
  have hc:(!((decide ((97:Int)<=(s[i].toNat:Int))&&decide ((s[i].toNat:Int)<=122))||((!decide (kind=3)&&decide ((65:Int)<=(s[i].toNat:Int)))&&decide ((s[i].toNat:Int)<=90))))=false:=hc;rw [e] at hc;(conv=>whnf);refine ⟨⟨by omega,by omega⟩,?_⟩;(conv=>whnf);refine ⟨s.length - (i+1),by omega,i+1,rfl,rfl,rfl,by omega,fun j y hj hy=>?_⟩;rcases Nat.lt_succ_iff_lt_or_eq.1 hj with h|rfl
  ·exact hg j y h hy
  rw [hx] at hy;cases hy;simpa using hc
 have hb:¬ (i:Int)<(s.length:Int):=of_decide_eq_false hb;(conv=>whnf);refine ⟨congrArg AV.bool ?_,rfl⟩;symm;unfold textOK;rw [hpre,Bool.true_and,List.all_eq_true];intro y hy;obtain ⟨j,hj,rfl⟩:=List.getElem_of_mem hy;exact hg j _ (by omega) (List.getElem?_eq_getElem hj)
structure Sgn where
 code:List UInt8
 wide:Int
 high:Int
 even:Bool
 values:List Val
structure Lst where
 periods:Int
 signs:List Sgn
def encSgn (s:Sgn):List AV:=[.str s.code,.int .i64 s.wide,.int .i64 s.high,.bool s.even,.sl 4 none (s.values.map encVal)]
def encLst (l:Lst):List AV:=[.int .i64 l.periods,.sl 5 none (l.signs.map encSgn)]
def valErr (l:Lst) (before:List Val) (v:Val):Int:=
 if v.kind<1\/3<v.kind\/textOK v.kind v.text=false then 12
 else if v.fr<1\/v.to<v.fr\/l.periods<v.to then 13
 else if before.any (meetB v)=true then 12
 else 0
def c45:Cfg:=⟨[0,1,2,3,5,6,7,24,42],[],[],[],[],[]⟩
theorem checkValue (l:Lst) (before:List Val) (v:Val) (hb:before.length<=LMAX) (hv:v.text.length<=LMAX) :
  QCall Tryz.prog 45 [.agg (encLst l),.sl 4 none (before.map encVal),.agg (encVal v)] [] (.int .i64 (valErr l before v)):=by
 refine acalls (fn:=Tryz.f45) (code:=(Tryz.f45.body.getD .skip)) (c:=c45) rfl rfl rfl mixed (by simp [Tryz.f45]) fun X=>?_;(conv=>whnf);refine ⟨_,fun h1=>validText v.kind v.text hv,?_⟩;(conv=>whnf);refine ⟨fun hc=>?_,fun hc=>?_⟩
 ·have hc:(decide (v.kind<1)||decide (3<v.kind)||!(textOK v.kind v.text))=true:=hc;(conv=>whnf);refine ⟨congrArg (AV.int .i64) ?_,rfl⟩;unfold valErr;rw [if_pos (by simpa [or_assoc] using hc)]
 have hc:(decide (v.kind<1)||decide (3<v.kind)||!(textOK v.kind v.text))=false:=hc;have hc':¬ (v.kind<1\/3<v.kind\/textOK v.kind v.text=false):=by intro hh;have:(decide (v.kind<1)||decide (3<v.kind)||!(textOK v.kind v.text))=true:=(by simpa [or_assoc] using hh);rw [hc] at this;cases this
 (conv=>whnf);refine ⟨fun hd=>?_,fun hd=>?_⟩
 ·have hd:(decide (v.fr<1)||decide (v.to<v.fr)||decide (l.periods<v.to))=true:=hd;(conv=>whnf);refine ⟨congrArg (AV.int .i64) ?_,rfl⟩;unfold valErr;rw [if_neg hc',if_pos (by simpa [or_assoc] using hd)]
 have hd:(decide (v.fr<1)||decide (v.to<v.fr)||decide (l.periods<v.to))=false:=hd;have hd':¬ (v.fr<1\/v.to<v.fr\/l.periods<v.to):=by intro hh;have:(decide (v.fr<1)||decide (v.to<v.fr)||decide (l.periods<v.to))=true:=(by simpa [or_assoc] using hh);rw [hd] at this;cases this
 (conv=>whnf);refine QCall.k0 (containsFuncV before hb 79 [.iptr (encVal v)] (meetB v) (fun w _=>meetF v w)) ?_;(conv=>whnf);refine ⟨fun he=>?_,fun he=>?_⟩
 ·have he:before.any (meetB v)=true:=he;(conv=>whnf);refine ⟨congrArg (AV.int .i64) ?_,rfl⟩;unfold valErr;rw [if_neg hc',if_neg hd',if_pos he]
 have he:before.any (meetB v)=false:=he;(conv=>whnf);refine ⟨congrArg (AV.int .i64) ?_,rfl⟩;unfold valErr;rw [if_neg hc',if_neg hd',if_neg (by rw [he];decide)]
end Go.Abs.Wall
namespace Go.Abs.Wall
open Go Go.Abs Go.Proofs
def Below {α:Type} (p:α->Bool) (l:List α) (i:Nat):Prop:=∀ j y,j<i->l[j]?=some y->p y=false
theorem Below.zero {α:Type} {p:α->Bool} {l:List α}:Below p l 0:=fun j y h=>by omega
theorem Below.succ {α:Type} {p:α->Bool} {l:List α} {i:Nat} {x:α} (h:Below p l i) (hx:l[i]?=some x) (hp:p x=false):Below p l (i+1):=by
 intro j y hj hy;rcases Nat.lt_succ_iff_lt_or_eq.1 hj with h'|rfl
 ·exact h j y h' hy
 rw [hx] at hy;cases hy;exact hp
theorem Below.at {α:Type} {p:α->Bool} {l:List α} {i:Nat} {x:α} (hb:Below p l i) (hx:l[i]?=some x) (hp:p x=true):firstI p l=(i:Int):=by obtain ⟨h1,h2⟩:=List.getElem?_eq_some_iff.1 hx;exact firstI_some h1 (by rw [h2];exact hp) (fun j hj=>hb j _ hj (List.getElem?_eq_getElem (by omega)))
theorem Below.all {α:Type} {p:α->Bool} {l:List α} {i:Nat} (hb:Below p l i) (hi:l.length<=i):∀ y∈l,p y=false:=by intro y hy;obtain ⟨j,hj,rfl⟩:=List.getElem_of_mem hy;exact hb j _ (by omega) (List.getElem?_eq_getElem hj)
theorem Below.end {α:Type} {p:α->Bool} {l:List α} {i:Nat} (hb:Below p l i) (hi:l.length<=i):firstI p l = -1:=
 firstI_none (fun j hj=>hb.all hi _ (List.getElem_mem hj))
def c135:Cfg:=⟨[0,1,4,5,7,8,9,16],[],[],[],[],[]⟩
def c114:Cfg:=⟨[0,1,4],[],[],[],[],[]⟩
theorem indexFuncI (l:List Int) (hl:l.length<=LMAX) (f:FuncId) (caps:List AV) (p:Int->Bool) (hp:∀ w∈l,QCall Tryz.prog f (.int .i64 w::caps) [] (.bool (p w))) :
  QCall Tryz.prog 135 [.sl 1 none (ints l),.fn f caps] [] (.int .i64 (firstI p l)):=by
 refine fcalls (F:=Tryz.f135) c135 rfl rfl rfl mixed rfl fun X=>?_;(conv=>whnf);unfold LMAX at hl;refine sloop rfl mixed [0,1,7,8] [] (fun m r h=>∃ (i:Nat),r=[(0,[],.sl 1 none (ints l)),(1,[],.fn f caps),(7,[],.int .i64 (ints l).length),(8,[],.int .i64 i)]/\h=[]/\m=l.length - i/\i<=l.length/\Below p l i) ?_ ?_
 ·(conv=>whnf);exact ⟨_,0,rfl,rfl,rfl,by omega,.zero⟩
 rintro m r h ⟨i,rfl,rfl,rfl,hi,hg⟩;(conv=>whnf);refine ⟨fun hc=>?_,fun hc=>?_⟩<;>simp at hc
 ·obtain ⟨x,hx⟩:=get_lt hc;(conv=>whnf);repeat ((first|refine ix (by assumption) ?_|(refine QCall.k0 (hp x (List.mem_of_getElem? hx)) ?_));conv=>whnf)
  refine ⟨fun hd=>?_,fun hd=>?_⟩
  ·(conv=>whnf);exact ⟨by rw [hg.at hx hd],rfl⟩
  (conv=>whnf);repeat (refine ⟨gP_of ⟨by omega,by omega⟩,?_⟩;conv=>whnf)
  exact ⟨_,by omega,i+1,rfl,rfl,rfl,by omega,hg.succ hx hd⟩
 (conv=>whnf);exact ⟨by rw [hg.end hc],rfl⟩
theorem containsFuncI (l:List Int) (hl:l.length<=LMAX) (f:FuncId) (caps:List AV) (p:Int->Bool) (hp:∀ w∈l,QCall Tryz.prog f (.int .i64 w::caps) [] (.bool (p w))) :
  QCall Tryz.prog 114 [.sl 1 none (ints l),.fn f caps] [] (.bool (l.any p)):=by
 refine fcalls (F:=Tryz.f114) c114 rfl rfl rfl mixed rfl fun X=>?_;(conv=>whnf);refine QCall.k0 (indexFuncI l hl f caps p hp) ?_;(conv=>whnf);exact ⟨congrArg AV.bool (firstI_any p l),rfl⟩
end Go.Abs.Wall
namespace Go.Abs.Wall
open Go Go.Abs Go.Proofs
def valsErr (l:Lst) (vs:List Val):List Val->Nat->Int
 | [],_=>0
 | v::t,i=>if valErr l (vs.take i) v≠0 then valErr l (vs.take i) v else valsErr l vs t (i+1)
def sgnErr (l:Lst) (s:Sgn):Int:=
 if s.wide<1\/12<s.wide\/s.high<1\/12<s.high then 11
 else if 12<s.values.length then 2
 else valsErr l s.values s.values 0
def lstGo (l:Lst):List Sgn->List (List UInt8)->Int
 | [],_=>0
 | s::t,seen=>if codeOK s.code=false\/s.code∈seen then 10 else if sgnErr l s≠0 then sgnErr l s else lstGo l t (seen++[s.code])
def lstErr (l:Lst):Int:=
 if 200<l.signs.length then 2
 else if l.periods<1\/9<l.periods then 13
 else lstGo l l.signs []
structure SgnFit (s:Sgn):Prop where
 code:s.code.length<=LMAX
 values:s.values.length<=LMAX
 texts:∀ v∈s.values,v.text.length<=LMAX
structure LstFit (l:Lst):Prop where
 signs:l.signs.length<=LMAX
 each:∀ s∈l.signs,SgnFit s
theorem eqStr (a b:List UInt8):eqV Tryz.prog 9 (.str a) (.str b)=some (decide (a=b)):=rfl
theorem plainStr:plainT Tryz.prog 9=true:=by decide +kernel
def ones (seen:List (List UInt8)):List (List UInt8 × Int):=seen.map fun c=>(c,1)
theorem ones_look (c:List UInt8) (seen:List (List UInt8)):(lookA c (ones seen)).getD 0=if c∈seen then 1 else 0:=by
 induction seen with
 | nil=>rfl
 | cons a t ih=>
   unfold ones at ih ⊢;simp only [List.map_cons,lookA,List.mem_cons];by_cases h:c=a
   ·simp [h]
   simp [h,ih]
theorem ones_set (c:List UInt8) (seen:List (List UInt8)) (h:c ∉ seen):setA c 1 (ones seen)=ones (seen++[c]):=by
 induction seen with
 | nil=>rfl
 | cons a t ih=>
   simp only [List.mem_cons,not_or] at h;unfold ones at ih ⊢;simp only [List.map_cons,setA,List.cons_append];rw [if_neg h.1,ih h.2]
def c19:Cfg:=⟨[0,1,2,3,5,6,7,8,12,20,23,24,25,26,39,62,66,68,69,70,71,83],[],[5,7],[],[(19,[0,1,2,3,4,5,6,7],[])],[]⟩
set_option maxHeartbeats 1000000 in
theorem signsCheck (l:Lst) (hl:LstFit l):QCall Tryz.prog 19 [.agg (encLst l)] [] (.int .i64 (lstErr l)):=by
 have hl1:=hl.signs;unfold LMAX at hl1;refine QCall.of' (fcalls (F:=Tryz.f19) c19 rfl rfl rfl mixed rfl fun X=>?_);(conv=>whnf);refine ⟨fun hc=>?_,fun hc=>?_⟩<;>simp at hc
 ·(conv=>whnf);rw [lstErr,if_pos (by omega)]
 (conv=>whnf);refine ⟨fun hd=>?_,fun hd=>?_⟩<;>simp at hd
 ·(conv=>whnf);rw [lstErr,if_neg (by omega),if_pos (by omega)]
 have hgo:lstErr l=lstGo l l.signs []:=(by rw [lstErr,if_neg (by omega),if_neg (by omega)]);(conv=>whnf);intro bm;(conv=>whnf);refine sloop rfl mixed [1,3,23,24,25] [] (fun m r h=>∃ (i:Nat) (seen:List (List UInt8)),r=[(1,[],.iptr (encLst l)),(3,[],.omap bm),(23,[],.sl 5 none (l.signs.map encSgn)),(24,[],.int .i64 (l.signs.map encSgn).length),(25,[],.int .i64 i)]/\h=[(bm,.map (encA AV.str (AV.int .i64) (ones seen)))]/\m=l.signs.length - i/\i<=l.signs.length/\lstErr l=lstGo l (l.signs.drop i) seen) ?_ ?_
 ·(conv=>whnf);exact ⟨_,0,[],rfl,rfl,rfl,by omega,hgo⟩
 rintro m r h ⟨i,seen,rfl,rfl,rfl,hi,hr⟩;(conv=>whnf);refine ⟨fun he=>?_,fun he=>?_⟩<;>simp at he
 ·obtain ⟨s,hx⟩:=get_lt he;have hf:=hl.each s (List.mem_of_getElem? hx);rw [drop_cons hx,lstGo] at hr;(conv=>whnf);repeat ((first|refine ix (by assumption) ?_|refine ⟨_,_,Rem.here _,⟨Nat.le_of_ble_eq_true rfl,rfl⟩,?_⟩|intro (nb:Nat));conv=>whnf)
  refine QCall.k0 (validCode s.code hf.code) ?_;(conv=>whnf);refine lkI (List.mem_singleton.2 rfl) eqStr plainStr ?_;(conv=>whnf);rw [ones_look];refine ⟨fun hcc=>?_,fun hcc=>?_⟩
  ·have hcc:codeOK s.code=false\/s.code∈seen:=by
    by_cases hm:s.code∈seen
    ·exact .inr hm
    simp [hm] at hcc;exact .inl hcc
   (conv=>whnf);rw [hr,if_pos hcc]
  have hcc:¬ (codeOK s.code=false\/s.code∈seen):=by
   by_cases hm:s.code∈seen
   ·simp [hm] at hcc
   simp [hm] at hcc;simp [hm,hcc]
  rw [if_neg hcc] at hr;(conv=>whnf);refine lkI (List.mem_singleton.2 rfl) eqStr plainStr ?_;rw [ones_look];have hns:s.code ∉ seen:=fun h=>hcc (.inr h);rw [if_neg hns];(conv=>whnf);repeat (refine ⟨gP_of ⟨by omega,by omega⟩,?_⟩;conv=>whnf)
  refine upA eqStr plainStr (Upd.here _) ?_;rw [show (0:Int)+1=1 from rfl,ones_set _ _ hns];(conv=>whnf);refine ⟨fun hz=>?_,fun hz=>?_⟩<;>simp at hz
  ·have hse:sgnErr l s=11:=(by rw [sgnErr,if_pos (by omega)]);rw [hse,if_pos (by decide)] at hr;(conv=>whnf);rw [hr]
  (conv=>whnf);refine ⟨fun hy=>?_,fun hy=>?_⟩<;>simp at hy
  ·have hse:sgnErr l s=2:=(by rw [sgnErr,if_neg (by omega),if_pos (by omega)]);rw [hse,if_pos (by decide)] at hr;(conv=>whnf);rw [hr]
  have hse:sgnErr l s=valsErr l s.values s.values 0:=(by rw [sgnErr,if_neg (by omega),if_neg (by omega)]);have hfv:=hf.values;unfold LMAX at hfv;(conv=>whnf);refine sloop rfl mixed [1,3,5,23,24,25,68,69,70] [] (fun m r h=>∃ (j:Nat),r=[(1,[],.iptr (encLst l)),(3,[],.omap bm),(5,[],.iptr (encSgn s)),(23,[],.sl 5 none (l.signs.map encSgn)),(24,[],.int .i64 (l.signs.map encSgn).length),(25,[],.int .i64 i),(68,[],.sl 4 none (s.values.map encVal)),(69,[],.int .i64 (s.values.map encVal).length),(70,[],.int .i64 j)]/\h=[(bm,.map (encA AV.str (AV.int .i64) (ones (seen++[s.code]))))]/\m=s.values.length - j/\j<=s.values.length/\sgnErr l s=valsErr l s.values (s.values.drop j) j) ?_ ?_
  ·(conv=>whnf);exact ⟨_,0,rfl,rfl,rfl,by omega,hse⟩
  rintro m r h ⟨j,rfl,rfl,rfl,hj,hv⟩;(conv=>whnf);refine ⟨fun ha=>?_,fun ha=>?_⟩<;>simp at ha
  ·obtain ⟨v,hxv⟩:=get_lt ha;have hvt:=hf.texts v (List.mem_of_getElem? hxv);rw [drop_cons hxv,valsErr] at hv;(conv=>whnf);repeat ((first|refine ix (by assumption) ?_|refine ⟨_,_,Rem.here _,⟨Nat.le_of_ble_eq_true rfl,rfl⟩,?_⟩|refine And.intro (by show drawOK (opsAt Tryz.f19 _) _=true;decide +kernel) ?_|intro (nb:Nat));conv=>whnf)
   refine ⟨⟨by omega,by omega,by simp;omega⟩,?_⟩;have hq:=checkValue l (s.values.take j) v (by simp [LMAX];omega) hvt;rw [List.map_take] at hq;(conv=>whnf);refine gcall hq ?_;(conv=>whnf);refine ⟨fun hu=>?_,fun hu=>?_⟩<;>simp at hu
   ·rw [if_pos hu] at hv;rw [hv,if_pos hu] at hr;(conv=>whnf);rw [hr]
   rw [if_neg (by simpa using hu)] at hv;(conv=>whnf);repeat (refine ⟨gP_of ⟨by omega,by omega⟩,?_⟩;conv=>whnf)
   exact ⟨_,by omega,j+1,rfl,rfl,rfl,by omega,hv⟩
  rw [drop_nil ha,valsErr] at hv;rw [hv,if_neg (by decide)] at hr;(conv=>whnf);repeat (refine ⟨gP_of ⟨by omega,by omega⟩,?_⟩;conv=>whnf)
  exact ⟨_,by omega,i+1,_,rfl,rfl,rfl,by omega,hr⟩
 rw [drop_nil he] at hr;(conv=>whnf);rw [hr];rfl
end Go.Abs.Wall
namespace Go.Abs.Wall
open Go Go.Abs Go.Proofs
def c105:Cfg:=⟨[0,1,2,6],[],[],[],[],[]⟩
def c72:Cfg:=⟨[0,2,3,17,21,42],[],[],[],[],[]⟩
def c76:Cfg:=⟨[0,2,3,7,14],[],[],[],[],[]⟩
def c75:Cfg:=⟨[0,2,3,7,21],[],[],[],[],[]⟩
def c106:Cfg:=⟨[0,1,4,12,14],[],[],[],[],[]⟩
theorem between (c lo hi:Int):QCall Tryz.prog 105 [.int .u8 c,.int .u8 lo,.int .u8 hi] [] (.bool (decide (lo<=c)&&decide (c<=hi))):=by refine fcalls (F:=Tryz.f105) c105 rfl rfl rfl mixed rfl fun X=>?_;(conv=>whnf);exact ⟨rfl,rfl⟩
theorem btw (y:UInt8) (a b:Nat):(decide ((a:Int)<=(y.toNat:Int))&&decide ((y.toNat:Int)<=(b:Int)))=(decide (a<=y.toNat)&&decide (y.toNat<=b)):=by rw [le_cast,le_cast']
theorem b97 (y:UInt8):(decide ((97:Int)<=(y.toNat:Int))&&decide ((y.toNat:Int)<=122))=small y:=btw y 97 122
theorem b65 (y:UInt8):(decide ((65:Int)<=(y.toNat:Int))&&decide ((y.toNat:Int)<=90))=big y:=btw y 65 90
theorem b48 (y:UInt8):(decide ((48:Int)<=(y.toNat:Int))&&decide ((y.toNat:Int)<=57))=digit y:=btw y 48 57
theorem refSmall (s:List UInt8) (hs:s.length<=LMAX):QCall Tryz.prog 76 [.str s] [] (.bool (s.all small)):=by
 refine fcalls (F:=Tryz.f76) c76 rfl rfl rfl mixed rfl fun X=>?_;(conv=>whnf);unfold LMAX at hs;refine sloop rfl mixed [0,3] [] (fun m r h=>∃ (i:Nat),r=[(0,[],.str s),(3,[],.int .i64 i)]/\h=[]/\m=s.length - i/\i<=s.length/\s.all small=(s.drop i).all small) ?_ ?_
 ·(conv=>whnf);exact ⟨_,0,rfl,rfl,rfl,by omega,rfl⟩
 rintro m r h ⟨i,rfl,rfl,rfl,hi,hr⟩;(conv=>whnf);refine ⟨fun hc=>?_,fun hc=>?_⟩<;>simp at hc
 ·obtain ⟨y,hx⟩:=get_lt hc;rw [drop_cons hx,List.all_cons] at hr;(conv=>whnf);repeat ((first|refine sx (by assumption) ?_|refine QCall.k0 (between _ _ _) ?_);conv=>whnf)
  rw [b97];refine ⟨fun hd=>?_,fun hd=>?_⟩<;>simp at hd
  ·(conv=>whnf);exact ⟨by rw [hr,hd];rfl,rfl⟩
  rw [hd,Bool.true_and] at hr;(conv=>whnf);repeat (refine ⟨gP_of ⟨by omega,by omega⟩,?_⟩;conv=>whnf)
  exact ⟨_,by omega,i+1,rfl,rfl,rfl,by omega,hr⟩
 rw [drop_nil hc] at hr;(conv=>whnf);exact ⟨by rw [hr];rfl,rfl⟩
theorem refSounds (s:List UInt8) (hs:s.length<=LMAX):QCall Tryz.prog 75 [.str s] [] (.bool (s.all fun y=>small y||big y)):=by
 refine fcalls (F:=Tryz.f75) c75 rfl rfl rfl mixed rfl fun X=>?_;(conv=>whnf);unfold LMAX at hs;refine sloop rfl mixed [0,3] [] (fun m r h=>∃ (i:Nat),r=[(0,[],.str s),(3,[],.int .i64 i)]/\h=[]/\m=s.length - i/\i<=s.length/\(s.all fun y=>small y||big y)=(s.drop i).all fun y=>small y||big y) ?_ ?_
 ·(conv=>whnf);exact ⟨_,0,rfl,rfl,rfl,by omega,rfl⟩
 rintro m r h ⟨i,rfl,rfl,rfl,hi,hr⟩;(conv=>whnf);refine ⟨fun hc=>?_,fun hc=>?_⟩<;>simp at hc
 ·obtain ⟨y,hx⟩:=get_lt hc;rw [drop_cons hx,List.all_cons] at hr;(conv=>whnf);repeat ((first|refine sx (by assumption) ?_|refine QCall.k0 (between _ _ _) ?_|refine gcall (between _ _ _) ?_);conv=>whnf)
  rw [b97,b65];refine ⟨fun hd=>?_,fun hd=>?_⟩
  ·(conv=>whnf);exact ⟨by rw [hr];simp at hd;simp [hd],rfl⟩
  rw [show (small y||big y)=true by simp at hd;cases h:small y<;>simp [h] at hd ⊢;exact hd,Bool.true_and] at hr
  (conv=>whnf);repeat (refine ⟨gP_of ⟨by omega,by omega⟩,?_⟩;conv=>whnf)
  exact ⟨_,by omega,i+1,rfl,rfl,rfl,by omega,hr⟩
 rw [drop_nil hc] at hr;(conv=>whnf);exact ⟨by rw [hr];rfl,rfl⟩
theorem refCode (s:List UInt8) (hs:s.length<=LMAX):QCall Tryz.prog 72 [.str s] [] (.bool (codeOK s)):=by
 refine fcalls (F:=Tryz.f72) c72 rfl rfl rfl mixed rfl fun X=>?_;(conv=>whnf);unfold LMAX at hs;repeat ((first|(refine sxg ?_ ?_;(conv=>whnf);(intro h;simp at h;show 0<=0/\0<_;omega))|refine gcall (between _ _ _) ?_);conv=>whnf)
 rw [b65];refine ⟨fun hc=>?_,fun hc=>?_⟩
 ·(conv=>whnf);refine ⟨congrArg AV.bool ?_,rfl⟩;symm;simp only [Bool.or_eq_true,decide_eq_true_eq,Bool.not_eq_true'] at hc;unfold codeOK;simp only [Bool.and_eq_false_iff,decide_eq_false_iff_not];rcases hc with (hc|hc)|hc
  ·exact .inl (.inl (.inl (by omega)))
  ·exact .inl (.inl (.inr (by omega)))
  exact .inl (.inr hc)
 have hpre:(decide (1<=s.length)&&decide (s.length<=8)&&big (s[0]?.getD 0))=true:=by simp only [Bool.or_eq_false_iff,decide_eq_false_iff_not,Bool.not_eq_false'] at hc;simp only [Bool.and_eq_true,decide_eq_true_eq];exact ⟨by omega,hc.2⟩
 have hco:codeOK s=s.all alnum:=by unfold codeOK;rw [hpre];rfl
 (conv=>whnf);refine sloop rfl mixed [0,3] [] (fun m r h=>∃ (i:Nat),r=[(0,[],.str s),(3,[],.int .i64 i)]/\h=[]/\m=s.length - i/\i<=s.length/\codeOK s=(s.drop i).all alnum) ?_ ?_
 ·(conv=>whnf);exact ⟨_,0,rfl,rfl,rfl,by omega,hco⟩
 rintro m r h ⟨i,rfl,rfl,rfl,hi,hr⟩;(conv=>whnf);refine ⟨fun hc=>?_,fun hc=>?_⟩<;>simp at hc
 ·obtain ⟨y,hx⟩:=get_lt hc;rw [drop_cons hx,List.all_cons] at hr;(conv=>whnf);repeat ((first|refine sx (by assumption) ?_|refine QCall.k0 (between _ _ _) ?_|refine gcall (between _ _ _) ?_);conv=>whnf)
  rw [b97,b65,b48];refine ⟨fun hd=>?_,fun hd=>?_⟩
  ·(conv=>whnf);refine ⟨congrArg AV.bool ?_,rfl⟩;rw [hr,show alnum y=false by unfold alnum;revert hd;cases small y<;>cases big y<;>cases digit y<;>decide];rfl
  rw [show alnum y=true by unfold alnum;revert hd;cases small y<;>cases big y<;>cases digit y<;>decide,Bool.true_and] at hr
  (conv=>whnf);repeat (refine ⟨gP_of ⟨by omega,by omega⟩,?_⟩;conv=>whnf)
  exact ⟨_,by omega,i+1,rfl,rfl,rfl,by omega,hr⟩
 rw [drop_nil hc] at hr;(conv=>whnf);exact ⟨by rw [hr];rfl,rfl⟩
theorem refRight (kind:Int) (s:List UInt8) (hs:s.length<=LMAX):QCall Tryz.prog 106 [.int .i64 kind,.str s] [] (.bool (textOK kind s)):=by
 refine fcalls (F:=Tryz.f106) c106 rfl rfl rfl mixed rfl fun X=>?_;(conv=>whnf);refine ⟨fun hc=>?_,fun hc=>?_⟩<;>simp at hc
 ·(conv=>whnf);refine ⟨congrArg AV.bool ?_,rfl⟩;unfold textOK;symm;simp only [Bool.and_eq_false_iff,decide_eq_false_iff_not];omega
 have hpre:(decide (1<=s.length)&&decide (s.length<=8))=true:=by simp only [Bool.and_eq_true,decide_eq_true_eq];omega
 (conv=>whnf);refine ⟨fun hk=>?_,fun hk=>?_⟩<;>simp at hk
 ·(conv=>whnf);repeat (refine QCall.k0 (refSmall s hs) ?_;conv=>whnf)
  refine ⟨congrArg AV.bool ?_,rfl⟩;unfold textOK;rw [hpre,Bool.true_and];congr 1;funext y;unfold textCh;simp [hk]
 (conv=>whnf);repeat (refine QCall.k0 (refSounds s hs) ?_;conv=>whnf)
 refine ⟨congrArg AV.bool ?_,rfl⟩;unfold textOK;rw [hpre,Bool.true_and];congr 1;funext y;unfold textCh;simp [hk]
end Go.Abs.Wall
