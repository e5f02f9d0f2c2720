/- What is proved: small laws for the walks of this seat, and contracts of its functions. No condition but those each theorem names. -/
import Derived.Test.YtddhcllidlclmaaGreatN3
import Derived.Shelf.SlSortCmp.WholeK
import Derived.Test.YtddhcllidlclmaaGreatProg
import Derived.Shelf.SlSortCmp.InsertionK
import Derived.Shelf.Sort.Plain
import Derived.Test.YtddhcllidlclmaaGreatRows
import Derived.WalkKit
import Derived.ProofKit
import Derived.OpenShut
import Derived.JoinedCond
import Derived.ReadAgain
import Derived.ChangeStays
/-
 The abstract layer,part Y: drawn regions in which several things are made,in whichever order.
-/
set_option linter.unusedVariables false
set_option linter.unusedSimpArgs false
namespace Go.Abs
open Go
variable {P:Program} {n:Nat} {X:Nat→Prop} {all:List Oper} {cl ord:List Nat} {r:Regs}
def appNil:Op→Bool
 | .call cl=>(match cl.callee with
   | .builtin .append=>(match cl.args.toList with
     | .const (.slice none 0 0)::_=>true
     | _=>false)
   | _=>false)
 | _=>false
def makes (op:Op):Bool:=allocLike op||appNil op
theorem opL_makes {r:Regs} {h:Heap} {K:AV→Heap→Prop} {op:Op} (ha:makes op=true) (hq:opL P r h K op):opL P r h (fun v h'=>K v h'∧∃ x,h'=x::h) op:=by
 unfold makes at ha
 rw [Bool.or_eq_true] at ha
 rcases ha with ha|ha
 ·exact opL_alloc ha hq
 ·unfold appNil at ha
  split at ha<;>try contradiction
  rename_i cl
  split at ha<;>try contradiction
  rename_i hcal
  split at ha<;>try contradiction
  rename_i xs hargs
  simp only [opL,hcal] at hq ⊢
  split at hq<;>try contradiction
  split at hq<;>try contradiction
  split at hq<;>try contradiction
  split at hq<;>try contradiction
  split at hq<;>try contradiction
  split at hq<;>try contradiction
  split at hq
  ·split at hq<;>try contradiction
   obtain ⟨cs2,ys,h1,h2,h3,h4⟩:=hq
   exact ⟨cs2,ys,h1,h2,h3,fun q=>⟨h4 q,_,rfl⟩⟩
  ·rename_i hop
   rw [hargs] at hop
   unfold opnds at hop
   simp only [opnd,ofVal] at hop
   split at hop<;>try contradiction
   cases hop
  ·split at hq<;>try contradiction
   exact ⟨hq.1,fun q=>⟨hq.2 q,_,rfl⟩⟩
  ·rename_i hop
   rw [hargs] at hop
   unfold opnds at hop
   simp only [opnd,ofVal] at hop
   split at hop<;>try contradiction
   cases hop
  ·rename_i hop
   rw [hargs] at hop
   unfold opnds at hop
   simp only [opnd,ofVal] at hop
   split at hop<;>try contradiction
   cases hop
  ·rename_i hop
   rw [hargs] at hop
   unfold opnds at hop
   simp only [opnd,ofVal] at hop
   split at hop<;>try contradiction
   cases hop
  ·rename_i hop
   rw [hargs] at hop
   unfold opnds at hop
   simp only [opnd,ofVal] at hop
   split at hop<;>try contradiction
   cases hop
  ·exact hq.elim
  ·split at hq<;>try contradiction
   split at hq<;>try contradiction
   split at hq<;>try contradiction
   split at hq<;>try contradiction
   split at hq<;>try contradiction
   split at hq<;>try contradiction
   rename_i hop
   rw [hargs] at hop
   unfold opnds at hop
   simp only [opnd,ofVal] at hop
   split at hop<;>try contradiction
   cases hop
theorem opX_makes {r:Regs} {h:Heap} {K:AV→Heap→Prop} {op:Op} {own own2:List Nat} {d:Option Nat} (ha:makes op=true) (hq:opX P own own2 d r h K op):opX P own own2 d r h (fun v h'=>K v h'∧∃ x,h'=x::h) op:=by
 unfold opX at hq ⊢
 split at hq
 ·split at hq
  ·skip
   unfold opO at hq ⊢
   revert hq
   repeat' split
   all_goals first|exact fun hh=>hh.elim|exact fun hh=>⟨hh.1,fun b=>⟨hh.2 b,_,rfl⟩⟩
  ·skip
   exact opL_makes ha hq
 ·split at hq
  ·skip
   unfold opB at hq ⊢
   revert hq
   repeat' split
   all_goals first|exact fun hh=>hh.elim|exact fun hh b=>⟨hh b,_,rfl⟩
  ·skip
   exact opL_makes ha hq
 ·exact opL_makes ha hq
theorem DrawS.swap {kn rest':List Nat} {k i:Nat} (hs:DrawS all cl (kn++k::i::rest')) (hji:Nat.testBit (clN cl i) k=false):DrawS all cl (kn++i::k::rest'):=by
 have hik:∃ oj,all[i]?=some oj:=by
  obtain ⟨o2,ho2,_⟩:=hs.p4 (kn++[k]) i rest' (by simp)
  exact ⟨o2,ho2⟩
 obtain ⟨oj,hoj0⟩:=hik
 obtain ⟨o,ho,hedge⟩:=hs.p4 kn k (i::rest') rfl
 have hedgei:∀ e∈oj.after.toList,Region.binds .any e=true→e.on∈kn:=by
  obtain ⟨o2,ho2,hh⟩:=hs.p4 (kn++[k]) i rest' (by simp)
  rw [hoj0] at ho2;cases ho2
  intro e he hb
  have:=hh e he hb
  simp only [List.mem_append,List.mem_singleton] at this
  rcases this with h|h
  ·exact h
  ·exfalso
   have:Cl cl i k:=by
    unfold Cl
    rw [hs.e2 i _ hoj0,cloAt_bit]
    exact ⟨e,he,hb,.inl h⟩
   unfold Cl at this
   rw [hji] at this
   cases this
 refine ⟨hs.e1,hs.e2,?_,?_,?_,hs.n1,hs.d1⟩
 ·intro x hx
  have:=hs.p2 x hx
  simp only [List.mem_append,List.mem_cons] at this ⊢
  rcases this with h|h|h|h
  ·exact .inl h
  ·exact .inr (.inr (.inl h))
  ·exact .inr (.inl h)
  ·exact .inr (.inr (.inr h))
 ·have:=hs.p3
  simp only [List.nodup_append,List.nodup_cons,List.mem_cons] at this ⊢
  obtain ⟨u1,⟨u2,u3,u4⟩,u5⟩:=this
  refine ⟨u1,⟨?_,?_,u4⟩,?_⟩
  ·rintro (e|e)
   ·exact u2 (.inl e.symm)
   ·exact u3 e
  ·exact fun e=>u2 (.inr e)
  ·intro x hx y hy
   rcases hy with e|e|e
   ·exact u5 x hx y (.inr (.inl e))
   ·exact u5 x hx y (.inl e)
   ·exact u5 x hx y (.inr (.inr e))
 ·intro pre x post hpx
  rcases List.append_eq_append_iff.1 hpx with ⟨a',e1,e2⟩|⟨c',e1,e2⟩
  ·cases a' with
   | nil=>
     cases e2
     exact ⟨oj,hoj0,fun e he hb=>by rw [e1];simpa using hedgei e he hb⟩
   | cons z a'=>
     cases a' with
     | nil=>
       cases e2
       exact ⟨o,ho,fun e he hb=>by rw [e1];simp [hedge e he hb]⟩
     | cons z2 a'=>
       injection e2 with e3 e4
       injection e4 with e5 e6
       obtain ⟨o2,ho2,hh⟩:=hs.p4 (kn++k::i::a') x post (by rw [e6];simp)
       refine ⟨o2,ho2,fun e he hb=>?_⟩
       have:=hh e he hb
       rw [e1,← e3,← e5]
       simp only [List.mem_append,List.mem_cons] at this ⊢
       rcases this with h|h|h|h
       ·exact .inl h
       ·exact .inr (.inr (.inl h))
       ·exact .inr (.inl h)
       ·exact .inr (.inr (.inr h))
  ·cases c' with
   | nil=>
     simp at e2
     obtain ⟨e3,e4⟩:=e2
     subst e3
     exact ⟨oj,hoj0,fun e he hb=>by have:=hedgei e he hb;rw [e1] at this;simpa using this⟩
   | cons z c'=>
     simp at e2
     obtain ⟨e3,e4⟩:=e2
     subst e3
     exact hs.p4 pre x (c'++k::i::rest') (by rw [e1];simp)
theorem loud_step {own own2:List Nat} {K:Regs→Heap→Prop} {Rg:List Nat→List Nat→Regs→Heap→Prop} {Q:Exit→Act→World→Prop} (hs:DrawS all cl ord) {fuel i:Nat} {rest kn nf:List Nat} {ents:List (Nat × Nat × G × AV)} {h:Heap} {L:Array Bool} {g0:Gh} {a:Act} {w:World} {o:Oper}
  (hi:DInv n P all cl ord r kn (i::rest) nf ents h L) (ho:all[i]?=some o) (hoi:all.toArray[i]?=some o) (hgd:o.guard=none) (hal0:(makes o.op||(calm (entR ents r) o.op&&nfOKc cl all i nf))=true) (hkl:L.getD i false=false)
  (he:∀ e∈o.after.toList,Region.binds .any e=true→L.getD e.on false=true)
  (hr:opX P own own2 o.dst (entR ents r) h (fun v h'=>setP n o.dst [] v (entR ents r) fun r'=>Rg rest nf r' h') o.op) (hc:Conc n X g0 (entR (entL L ents) r) h a w) (hu:unl all.length L≤fuel+1)
  (IH:∀ (rest kn nf:List Nat) (ents:List (Nat × Nat × G × AV)) (h:Heap) (L:Array Bool) (g0:Gh) (a:Act) (w:World),
    DInv n P all cl ord r kn rest nf ents h L→Rg rest nf (entR ents r) h→Conc n X g0 (entR (entL L ents) r) h a w→unl all.length L≤fuel →
    (∀ r' h' g' a' w',K r' h'→Conc n X g' r' h' a' w'→Step X g0 h w g' h' w'→Q .normal a' w')→wpAny P .any all.toArray Q fuel L a w)
  (hf:∀ r' h' g' a' w',K r' h'→Conc n X g' r' h' a' w'→Step X g0 h w g' h' w'→Q .normal a' w') :
  wpOp P all.toArray Q i (wpAny P .any all.toArray Q fuel (L.setIfInBounds i true)) a w:=by
 have hko:i∈ord:=by rw [hi.split];simp
 have hnk:i ∉ kn:=by
  have:=hs.p3
  rw [hi.split,List.nodup_append] at this
  exact fun hm=>this.2.2 i hm i (by simp) rfl
 obtain ⟨hlt,_⟩:=hi.lt hs hko
 have hlti:i<all.length:=by rw [← hi.lsize];exact hlt
 have hil:=hkl
 have hedge:∀ e∈o.after.toList,Region.binds .any e=true→e.on∈kn:=by
  obtain ⟨o2,ho2,hh⟩:=hs.p4 kn i rest hi.split
  rw [ho] at ho2;cases ho2;exact hh
 have hclk:∀ j,Cl cl i j→j∈kn:=by
  intro j hj
  have:=(clo_closed hs (S:=fun x=>x∈kn∨x=i) (fun x hS=>by
   rcases hS with hS|rfl
   ·obtain ⟨o',ho',hh⟩:=hi.kn_closed hs x hS
    exact ⟨o',ho',fun e a b=>.inl (hh e a b)⟩
   ·exact ⟨o,ho,fun e a b=>.inl (hedge e a b)⟩) i (.inr rfl) j hj)
  rcases this.1 with h|rfl
  ·exact h
  ·exact absurd this.2 (Nat.lt_irrefl _)
 have hlook:∀ t∈readsOf all o,Look all cl ents r i t (lookR (entR ents r) t):=by
  intro t ht
  refine look_of hi hs ho (fun x hx=>hx) (fun j hj=>⟨hclk j hj,fun x hx _=>hx⟩) ?_ t ht
  intro x hx hcx
  exact hnk (hi.kn_clo hs (hi.ent1 x hx).1 hcx).1
 have hclo:∀ j,Cl cl i j→L.getD j false=true:=by
  intro j hj
  have:=(clo_closed hs (S:=fun x=>L.getD x false=true∨x=i) (fun x hS=>by
   rcases hS with hS|rfl
   ·obtain ⟨o',ho',hh⟩:=hi.lclosed x hS
    exact ⟨o',ho',fun e a b=>.inl (hh e a b)⟩
   ·exact ⟨o,ho,fun e a b=>.inl (he e a b)⟩) i (.inr rfl) j hj)
  rcases this.1 with h|rfl
  ·exact h
  ·exact absurd this.2 (Nat.lt_irrefl _)
 unfold wpOp
 simp only [hoi,wanted_none hgd,if_true]
 left
 have hac:∀ j,Cl cl i j→Cl cl j i→False:=fun j a b=>hnk (hi.kn_clo hs (hclk j a) b).1
 have hlookL:∀ t∈readsX o.op.operands.toList,lookR (entR ents r) t=lookR (entR (entL L ents) r) t:=by
  intro t ht
  have ht':t∈readsOf all o:=by unfold readsOf;exact List.mem_append_right _ ht
  refine look_fun hi hs (hlook t ht') (look_of hi hs ho (fun x hx=>(mem_entL.1 hx).1) ?_ ?_ t ht') hac
  ·intro j hj
   exact ⟨hclk j hj,fun x hx hxj=>mem_entL.2 ⟨hx,by rw [hxj];exact hclo j hj⟩⟩
  ·intro x hx hcx
   exact hnk (hi.kn_clo hs (hi.ent1 x (mem_entL.1 hx).1).1 hcx).1
 -- the heap behind it
 have hr2:opX P own own2 o.dst (entR (entL L ents) r) h (fun v h'=>(setP n o.dst [] v (entR ents r) fun r'=>Rg rest nf r' h')∧(makes o.op=true→∃ x,h'=x::h)∧(calm (entR ents r) o.op=true→Kept h h')) o.op:=by
  have hr0:opX P own own2 o.dst (entR ents r) h (fun v h'=>(setP n o.dst [] v (entR ents r) fun r'=>Rg rest nf r' h')∧(calm (entR ents r) o.op=true→Kept h h')) o.op:=by
   by_cases hcm:calm (entR ents r) o.op=true
   ·exact opX_mono (fun v h' hh=>⟨hh.1,fun _=>hh.2⟩) (opX_calm hcm hr)
   ·exact opX_mono (fun v h' hh=>⟨hh,fun hy=>absurd hy hcm⟩) hr
  have hr1:=opX_congr hlookL hr0
  by_cases hal:makes o.op=true
  ·have:=opX_makes hal hr1
   exact opX_mono (fun v h' hh=>⟨hh.1.1,fun _=>hh.2,hh.1.2⟩) this
  ·exact opX_mono (fun v h' hh=>⟨hh.1,fun hy=>absurd hy hal,hh.2⟩) hr1
 refine opX_ok hr2 hc ?_
 rintro v h' g' u w' ⟨hset,hx,hkp⟩ hcw hrep hst
 have hstab:∀ k'∈kn,(L.setIfInBounds i true).getD k' false=false→∃ o g v Rk,all[k']?=some o∧entryQ P all Rk h' (fun g' v'=>g'=g∧v'=v) o ∧
   (∀ t∈readsOf all o,Look all cl ents r k' t (lookR Rk t)) ∧
   (∀ d,o.dst=some d→(k',d,g,v)∈ents∧d<n∧(∀ e∈g,e.1≠d)∧∀ t gg v,lookR r t=some (gg,v)→∀ e∈gg,e.1≠d) ∧
   (k' ∉ nf→∀ h',entryQ P all Rk h' (fun g' v'=>g'=g∧v'=v) o):=by
  intro k' hk' hl'
  have hl:L.getD k' false=false:=by
   cases hb:L.getD k' false with
   | false=>rfl
   | true=>rw [getD_set_true hb] at hl';cases hl'
  obtain ⟨o',g2,v2,Rk,q1,q2,q3,q4,q5⟩:=hi.fact k' hk' hl
  refine ⟨o',g2,v2,Rk,q1,?_,q3,q4,q5⟩
  by_cases hal:makes o.op=true
  ·obtain ⟨x,rfl⟩:=hx hal
   exact entryQ_heap (fun g K hh=>opQ_more hh) q2
  ·rw [Bool.or_eq_true] at hal0
   have hcn:=hal0.resolve_left hal
   rw [Bool.and_eq_true] at hcn
   by_cases hnf:k'∈nf
   ·rcases nfOKc_ok hcn.2 k' hnf with h1|⟨o2,h1,h2⟩
    ·have:=hclo k' h1
     rw [hl] at this;cases this
    ·rw [q1] at h1
     cases h1
     exact entryQ_heap (fun g K hh=>opQ_kept h2 (hkp hcn.1) hh) q2
   ·exact q5 hnf h'
 have hown0:∀ {p:Prop},(L.setIfInBounds i true).getD i false=false→p:=by
  intro p hh
  have:(L.setIfInBounds i true).getD i false=true:=by simp [hlt]
  rw [this] at hh;cases hh
 have hf':∀ r2 h2 g2 a2 w2,K r2 h2→Conc n X g2 r2 h2 a2 w2→Step X g' h' w' g2 h2 w2→Q .normal a2 w2:=
  fun r2 h2 g2 a2 w2 hK hc2 hst2=>hf r2 h2 g2 a2 w2 hK hc2 (hst.trans hc.cw.own hst2)
 have hun:unl all.length (L.setIfInBounds i true)≤fuel:=by have:=unl_set hlti hi.lsize.symm hil;omega
 cases hd:o.dst with
 | none=>
   rw [hd] at hset
   have hi':=hi.enter (n:=n) (P:=P) (g:=[]) (v:=v) (ents':=ents) (nf':=nf) (h':=h') (L':=L.setIfInBounds i true) hs ho (by rw [hd]) (by simp) (.inr ⟨rfl,he⟩) hstab hown0
   refine IH rest _ nf ents h' _ g' _ w' hi' hset ?_ hun hf'
   have hE:entL (L.setIfInBounds i true) ents=entL L ents:=by
    unfold entL
    refine List.filter_congr fun x hx=>?_
    exact getD_set_ne false (fun e=>hnk (e ▸ (hi.ent1 x hx).1))
   rw [hE]
   simpa [Act.put] using hc.step hcw hst
 | some d=>
   rw [hd] at hset
   unfold setP at hset
   simp only at hset
   split at hset<;>try contradiction
   rename_i hdn
   rw [Nat.blt_eq] at hdn
   split at hset<;>try contradiction
   rename_i hni
   have hnr:=notIn_entR (notIn_cons hni).2
   have hi':=hi.enter (n:=n) (P:=P) (g:=[]) (v:=v) (ents':=(i,d,[],v)::ents) (nf':=nf) (h':=h') (L':=L.setIfInBounds i true) hs ho (by rw [hd]) (by simp) (.inr ⟨rfl,he⟩) hstab hown0
   refine IH rest _ nf ((i,d,[],v)::ents) h' _ g' _ w' hi' hset ?_ hun hf'
   have hE:entL (L.setIfInBounds i true) ((i,d,[],v)::ents)=(i,d,[],v)::entL L ents:=by
    unfold entL
    have h1:(L.setIfInBounds i true).getD i false=true:=by simp [hlt]
    rw [List.filter_cons,if_pos h1]
    congr 1
    refine List.filter_congr fun x hx=>?_
    exact getD_set_ne false (fun e=>hnk (e ▸ (hi.ent1 x hx).1))
   rw [hE]
   show Conc n X g' ((d,[],v)::entR (entL L ents) r) h' (a.put (some d) u) w'
   refine hc.put' hcw hst hdn (by simp) ?_ (fun _=>⟨by simp,hrep⟩) (fun hh=>absurd (fun e he=>by cases he) hh)
   intro t gg vv hl e hee hed
   rcases look_entR hl with ⟨x,hx,ex⟩|hl
   ·obtain ⟨hx,hlx⟩:=mem_entL.1 hx
    have hcx:=hi.path x hx e (by rw [ex];exact hee) i o ho (hed ▸ hd)
    exact hnk (hi.kn_clo hs (hi.ent1 x hx).1 hcx).1
   ·exact notIn_look hnr hl e hee hed
def nobit (cl:List Nat) (q:Nat):List Nat→Bool
 | []=>true
 | x::l=>match Nat.testBit (clN cl q) x with
   | true=>false
   | false=>nobit cl q l
def somebit (cl:List Nat) (q:Nat):List Nat→Bool
 | []=>false
 | x::l=>match Nat.testBit (clN cl q) x with
   | true=>true
   | false=>somebit cl q l
def allSome (cl ms:List Nat):List Nat→Bool
 | []=>true
 | q::l=>match somebit cl q ms with
   | true=>allSome cl ms l
   | false=>false
def apartB (cl ms:List Nat):List Nat→Bool
 | []=>true
 | m::l=>match nobit cl m ms with
   | true=>apartB cl ms l
   | false=>false
def pickF (cl:List Nat):List Nat→List Nat→Option (Nat × List Nat)
 | _,[]=>none
 | bef,q::l=>match nobit cl q bef with
   | true=>some (q,l)
   | false=>match pickF cl (q::bef) l with
     | some (x,l')=>some (x,q::l')
     | none=>none
def erase1 (m:Nat):List Nat→List Nat
 | []=>[]
 | x::l=>match Nat.beq x m with
   | true=>l
   | false=>x::erase1 m l
def eachM (G:Nat→Prop):List Nat→Prop
 | []=>True
 | m::l=>G m∧eachM G l
theorem nobit_ok {cl:List Nat} {q:Nat}:∀ {l:List Nat},nobit cl q l=true→∀ x∈l,Nat.testBit (clN cl q) x=false
 | [],_,x,hx=>by cases hx
 | y::l,h,x,hx=>by
   unfold nobit at h
   split at h
   ·cases h
   ·rename_i hy
    rcases List.mem_cons.1 hx with rfl|hx
    ·exact hy
    ·exact nobit_ok h x hx
theorem somebit_ok {cl:List Nat} {q:Nat}:∀ {l:List Nat},somebit cl q l=true→∃ x∈l,Cl cl q x
 | [],h=>by cases h
 | y::l,h=>by
   unfold somebit at h
   split at h
   ·rename_i hy;exact ⟨y,by simp,hy⟩
   ·obtain ⟨x,h1,h2⟩:=somebit_ok h
    exact ⟨x,by simp [h1],h2⟩
theorem allSome_ok {cl ms:List Nat}:∀ {l:List Nat},allSome cl ms l=true→∀ q∈l,∃ x∈ms,Cl cl q x
 | [],_,q,hq=>by cases hq
 | y::l,h,q,hq=>by
   unfold allSome at h
   split at h
   ·rename_i hy
    rcases List.mem_cons.1 hq with rfl|hq
    ·exact somebit_ok hy
    ·exact allSome_ok h q hq
   ·cases h
theorem apartB_ok {cl ms:List Nat}:∀ {l:List Nat},apartB cl ms l=true→∀ m∈l,∀ x∈ms,Nat.testBit (clN cl m) x=false
 | [],_,m,hm=>by cases hm
 | y::l,h,m,hm=>by
   unfold apartB at h
   split at h
   ·rename_i hy
    rcases List.mem_cons.1 hm with rfl|hm
    ·exact nobit_ok hy
    ·exact apartB_ok h m hm
   ·cases h
theorem pickF_ok {cl:List Nat} {q:Nat}:∀ {l bef l2:List Nat},pickF cl bef l=some (q,l2)→∃ b c,l=b++q::c∧l2=b++c∧(∀ x∈bef,Nat.testBit (clN cl q) x=false)∧∀ x∈b,Nat.testBit (clN cl q) x=false
 | [],bef,l2,h=>by cases h
 | y::l,bef,l2,h=>by
   unfold pickF at h
   split at h
   ·rename_i hy
    cases h
    exact ⟨[],l,rfl,rfl,nobit_ok hy,by simp⟩
   ·split at h
    ·rename_i x l' hx
     cases h
     obtain ⟨b,c,rfl,rfl,h3,h4⟩:=pickF_ok hx
     refine ⟨y::b,c,rfl,rfl,fun z hz=>h3 z (by simp [hz]),fun z hz=>?_⟩
     rcases List.mem_cons.1 hz with rfl|hz
     ·exact h3 _ (by simp)
     ·exact h4 z hz
    ·cases h
theorem erase1_ok {m:Nat}:∀ {ms:List Nat},m∈ms→∃ a b,ms=a++m::b∧erase1 m ms=a++b
 | [],h=>by cases h
 | x::l,h=>by
   unfold erase1
   split
   ·rename_i hx
    have:=Nat.eq_of_beq_eq_true hx
    subst this
    exact ⟨[],l,rfl,rfl⟩
   ·rename_i hx
    rcases List.mem_cons.1 h with rfl|h
    ·rw [Nat.beq_refl] at hx;cases hx
    ·obtain ⟨a,b,e1,e2⟩:=erase1_ok h
     exact ⟨x::a,b,by rw [e1];rfl,by rw [e2];rfl⟩
theorem eachM_ok {G:Nat→Prop}:∀ {l:List Nat},eachM G l→∀ m∈l,G m
 | [],_,m,hm=>by cases hm
 | y::l,h,m,hm=>by
   rcases List.mem_cons.1 hm with rfl|hm
   ·exact h.1
   ·exact eachM_ok h.2 m hm
theorem eachM_mono {G G':Nat→Prop} (hg:∀ m,G m→G' m):∀ {l:List Nat},eachM G l→eachM G' l
 | [],_=>trivial
 | y::l,h=>⟨hg _ h.1,eachM_mono hg h.2⟩
theorem DrawS.front {i:Nat} {post:List Nat}:∀ {a kn:List Nat},DrawS all cl (kn++(a++i::post))→(∀ x∈a,Nat.testBit (clN cl i) x=false)→DrawS all cl (kn++(i::(a++post)))
 | [],kn,hs,_=>hs
 | x::a,kn,hs,h=>by
   have h1:DrawS all cl ((kn++[x])++(i::(a++post))):=DrawS.front (a:=a) (kn:=kn++[x]) (by simpa using hs) (fun y hy=>h y (by simp [hy]))
   have h2:DrawS all cl (kn++x::i::(a++post)):=by simpa using h1
   exact DrawS.swap h2 (h x (by simp))
def regM (P:Program) (c:Cfg) (n:Nat) (all:List Oper) (cl:List Nat) (K:Regs→Heap→Prop):Nat→List Nat→List Nat→List Nat→Regs→Heap→Prop
 | 0,_,_,_,_,_=>False
 | f+1,ms,rest,nf,r,h=>match ms with
   | []=>regD P c n all cl K rest nf r h
   | m0::ms0=>match pickF cl (m0::ms0) rest with
     | some (q,rest2)=>(match all[q]? with
       | none=>False
       | some o=>match loudD c o with
         | true=>regM P c n all cl K f (q::m0::ms0) rest2 nf r h
         | false=>entryQ P all r h (fun g v=>match pathOK cl all q g with
           | true=>setP n o.dst g v r fun r'=>regM P c n all cl K f (m0::ms0) rest2 (match hfree r g o.op with|true=>nf|false=>q::nf) r' h
           | false=>False) o)
     | none=>(apartB cl (m0::ms0) (m0::ms0)&&allSome cl (m0::ms0) rest)=true∧eachM (fun m=>match all[m]? with
       | none=>False
       | some o=>(o.guard.isNone&&(makes o.op||(calm r o.op&&nfOKc cl all m nf)))=true∧opX P c.own c.lc o.dst r h (fun v h'=>setP n o.dst [] v r fun r'=>regM P c n all cl K f (erase1 m (m0::ms0)) rest nf r' h') o.op) (m0::ms0)
theorem draw_gameM {c:Cfg} {K:Regs→Heap→Prop} {Q:Exit→Act→World→Prop}:∀ (fuel f:Nat) (ord ms rest kn nf:List Nat) (ents:List (Nat × Nat × G × AV)) (h:Heap) (L:Array Bool) (g0:Gh) (a:Act) (w:World),DrawS all cl ord →
  DInv n P all cl ord r kn (ms++rest) nf ents h L→regM P c n all cl K f ms rest nf (entR ents r) h→Conc n X g0 (entR (entL L ents) r) h a w→unl all.length L≤fuel →
  (∀ r' h' g' a' w',K r' h'→Conc n X g' r' h' a' w'→Step X g0 h w g' h' w'→Q .normal a' w')→wpAny P .any all.toArray Q fuel L a w:=by
 intro fuel
 induction fuel with
 | zero=>
   intro f ord ms rest kn nf ents h L g0 a w hs hi hr hc hu hf
   have hall:=unl_zero (Nat.le_zero.1 hu)
   cases f with
   | zero=>exact hr.elim
   | succ f=>
   cases ms with
   | nil=>exact draw_game hs 0 rest kn nf ents h L g0 a w hi hr hc hu hf
   | cons x ms=>
     have hx:x∈ord:=by rw [hi.split];simp
     obtain ⟨hlt,_⟩:=hi.lt hs hx
     have h1:=hi.lsub x (hall x (by rw [← hi.lsize];exact hlt))
     have:=hs.p3
     rw [hi.split,List.nodup_append] at this
     exact absurd rfl (this.2.2 x h1 x (by simp))
 | succ fuel IH=>
   intro f
   induction f with
   | zero=>intro ord ms rest kn nf ents h L g0 a w hs hi hr;exact hr.elim
   | succ f ihr=>
     intro ord ms rest kn nf ents h L g0 a w hs hi hr hc hu hf
     cases ms with
     | nil=>exact draw_game hs (fuel+1) rest kn nf ents h L g0 a w hi hr hc hu hf
     | cons m0 ms0=>
     have hr0:=hr
     unfold regM at hr
     simp only at hr
     split at hr
     · -- a quiet one,brought to the front
      rename_i k rest2 hpk
      obtain ⟨b,c2,rfl,rfl,hb1,hb2⟩:=pickF_ok hpk
      have hs':DrawS all cl (kn++(k::(((m0::ms0)++b)++c2))):=DrawS.front (by have:=hs;rw [hi.split] at this;simpa using this) (fun x hx=>by
       rcases List.mem_append.1 hx with hx|hx
       ·exact hb1 x hx
       ·exact hb2 x hx)
      have hi:DInv n P all cl (kn++(k::(((m0::ms0)++b)++c2))) r kn (k::(((m0::ms0)++b)++c2)) nf ents h L:=⟨rfl,hi.lsize,hi.lsub,hi.lclosed,hi.ent1,hi.ent2,hi.ent3,hi.path,hi.fact⟩
      have hs:=hs'
      have hko:k∈kn++(k::(((m0::ms0)++b)++c2)):=by simp
      have hnk:k ∉ kn:=by
       have:=hs.p3
       rw [List.nodup_append] at this
       exact fun hm=>this.2.2 k hm k (by simp) rfl
      obtain ⟨hlt,o,ho⟩:=hi.lt hs hko
      have hkl:L.getD k false=false:=by
       cases hb:L.getD k false with
       | false=>rfl
       | true=>exact absurd (hi.lsub k hb) hnk
      have hedge:∀ e∈o.after.toList,Region.binds .any e=true→e.on∈kn:=by
       obtain ⟨o2,ho2,hh⟩:=hs.p4 kn k _ hi.split
       rw [ho] at ho2;cases ho2;exact hh
      have hclk:∀ j,Cl cl k j→j∈kn:=by
       intro j hj
       have:=(clo_closed hs (S:=fun i=>i∈kn∨i=k) (fun i hS=>by
        rcases hS with hS|rfl
        ·obtain ⟨o',ho',hh⟩:=hi.kn_closed hs i hS
         exact ⟨o',ho',fun e a b=>.inl (hh e a b)⟩
        ·exact ⟨o,ho,fun e a b=>.inl (hedge e a b)⟩) k (.inr rfl) j hj)
       rcases this.1 with h|rfl
       ·exact h
       ·exact absurd this.2 (Nat.lt_irrefl _)
      have hlook:∀ t∈readsOf all o,Look all cl ents r k t (lookR (entR ents r) t):=by
       intro t ht
       refine look_of hi hs ho (fun x hx=>hx) (fun j hj=>⟨hclk j hj,fun x hx _=>hx⟩) ?_ t ht
       intro x hx hcx
       exact hnk (hi.kn_clo hs (hi.ent1 x hx).1 hcx).1
      have e0:(((m0::ms0)++b)++c2)=(m0::ms0)++(b++c2):=by simp
      rw [e0] at hi hs
      rw [ho] at hr
      simp only at hr
      split at hr
      ·exact ihr _ (k::m0::ms0) (b++c2) kn nf ents h L g0 a w hs hi hr hc hu hf
      obtain ⟨g,v,hKv,hE⟩:=entryQ_val hr
      split at hKv<;>try contradiction
      rename_i hpath
      have hpath:=pathOK_ok hpath
      obtain ⟨nf2,hnf2⟩:∃ nf2,nf2=(match hfree (entR ents r) g o.op with|true=>nf|false=>k::nf):=⟨_,rfl⟩
      have hfr0:k ∉ nf2→∀ h',entryQ P all (entR ents r) h' (fun g' v'=>g'=g∧v'=v) o:=by
       intro hk' h'
       rw [hnf2] at hk'
       split at hk'
       ·rename_i hfr;exact entryQ_free hfr hE
       ·simp at hk'
      have hinc:∀ x∈nf,x∈nf2:=by
       intro x hx
       rw [hnf2]
       split
       ·exact hx
       ·exact List.mem_cons_of_mem _ hx
      have hold:∀ k'∈kn,L.getD k' false=false→∃ o g v Rk,all[k']?=some o∧entryQ P all Rk h (fun g' v'=>g'=g∧v'=v) o ∧
          (∀ t∈readsOf all o,Look all cl ents r k' t (lookR Rk t)) ∧
          (∀ d,o.dst=some d→(k',d,g,v)∈ents∧d<n∧(∀ e∈g,e.1≠d)∧∀ t gg v,lookR r t=some (gg,v)→∀ e∈gg,e.1≠d) ∧
          (k' ∉ nf2→∀ h',entryQ P all Rk h' (fun g' v'=>g'=g∧v'=v) o):=by
       intro k' hk' hl'
       obtain ⟨o',g2,v2,Rk,q1,q2,q3,q4,q5⟩:=hi.fact k' hk' hl'
       exact ⟨o',g2,v2,Rk,q1,q2,q3,q4,fun hh=>q5 fun hm=>hh (hinc _ hm)⟩
      cases hd:o.dst with
      | none=>
        rw [hd] at hKv
        have hi':=hi.enter (n:=n) (P:=P) (g:=g) (v:=v) (ents':=ents) (nf':=nf2) (h':=h) (L':=L) hs ho (by rw [hd]) hpath (.inl rfl) hold
         (fun _=>⟨o,g,v,entR ents r,ho,hE,hlook,fun d hd'=>(by rw [hd] at hd';cases hd'),hfr0⟩)
        exact ihr _ _ _ _ _ ents h L g0 a w hs hi' (by rw [hnf2];exact hKv) hc hu hf
      | some d=>
        rw [hd] at hKv
        unfold setP at hKv
        simp only at hKv
        split at hKv<;>try contradiction
        rename_i hdn
        rw [Nat.blt_eq] at hdn
        split at hKv<;>try contradiction
        rename_i hni
        obtain ⟨hn1,hn2⟩:=notIn_cons hni
        have hnr:=notIn_entR hn2
        have hi':=hi.enter (n:=n) (P:=P) (g:=g) (v:=v) (ents':=(k,d,g,v)::ents) (nf':=nf2) (h':=h) (L':=L) hs ho (by rw [hd]) hpath (.inl rfl) hold
         (fun _=>⟨o,g,v,entR ents r,ho,hE,fun t ht=>(hlook t ht).more (fun x hx=>List.mem_cons_of_mem _ hx),
           fun d' hd'=>(by rw [hd] at hd';cases hd';exact ⟨List.mem_cons_self,hdn,hn1,fun t gg vv hl=>notIn_look hnr hl⟩),hfr0⟩)
        refine ihr _ _ _ _ _ ((k,d,g,v)::ents) h L g0 a w hs hi' (by rw [hnf2];exact hKv) ?_ hu hf
        have hE:entL L ((k,d,g,v)::ents)=entL L ents:=by
         unfold entL
         rw [List.filter_cons,if_neg (by simp only [hkl];exact Bool.false_ne_true)]
        rw [hE]
        exact hc
     · -- those that are made
      obtain ⟨hcond,hE⟩:=hr
      simp only [Bool.and_eq_true] at hcond
      have hap:=apartB_ok hcond.1
      have hlate:=allSome_ok hcond.2
      have hm0:m0 ∉ kn:=by
       have:=hs.p3
       rw [hi.split,List.nodup_append] at this
       exact fun hm=>this.2.2 m0 hm m0 (by simp) rfl
      refine ⟨fun hre=>?_,fun i hm=>?_⟩
      ·have:=ready_none hi hs hre m0 (by rw [hi.split];simp)
       exact absurd (hi.lsub m0 this) hm0
      ·obtain ⟨m1,oi',hoi,m2⟩:=mem_ready.1 hm
       have hoi':all[i]?=some oi':=by simpa using hoi
       have hlti:i<all.length:=(List.getElem?_eq_some_iff.1 hoi').1
       have hil:L.getD i false=false:=by rw [← getD_true_false (by rw [hi.lsize];exact hlti)];exact m1
       have he:∀ e∈oi'.after.toList,Region.binds .any e=true→L.getD e.on false=true:=fun e he hb=>m2 e (by simpa using he) hb
       have hclo:∀ j,Cl cl i j→L.getD j false=true:=by
        intro j hj
        have:=(clo_closed hs (S:=fun x=>L.getD x false=true∨x=i) (fun x hS=>by
         rcases hS with hS|rfl
         ·obtain ⟨o',ho',hh⟩:=hi.lclosed x hS
          exact ⟨o',ho',fun e a b=>.inl (hh e a b)⟩
         ·exact ⟨oi',hoi',fun e a b=>.inl (he e a b)⟩) i (.inr rfl) j hj)
        rcases this.1 with h|rfl
        ·exact h
        ·exact absurd this.2 (Nat.lt_irrefl _)
       have hin:i∈kn∨i∈m0::ms0∨i∈rest:=by
        have:=hs.p2 i hlti
        rw [hi.split] at this
        simpa [or_assoc] using this
       rcases hin with hik|him|hir
       ·refine run_quiet hi hs hik hil (fun o2 ho2=>by rw [hoi'] at ho2;cases ho2;exact he) hc ?_
        intro g' a' w' hc' hst
        exact IH (f+1) ord (m0::ms0) rest kn nf ents h _ g' a' w' hs (hi.list hik hoi' he) hr0 hc' (by have:=unl_set hlti hi.lsize.symm hil;omega)
         (fun r2 h2 g2 a2 w2 hK hc2 hst2=>hf r2 h2 g2 a2 w2 hK hc2 (hst.trans hc.cw.own hst2))
       ·have hA:=eachM_ok hE i him
        rw [hoi'] at hA
        simp only at hA
        rw [Bool.and_eq_true,Option.isNone_iff_eq_none] at hA
        obtain ⟨⟨hg1,ha1⟩,hA⟩:=hA
        obtain ⟨a1,b1,e1,e2⟩:=erase1_ok him
        have hs':DrawS all cl (kn++(i::(a1++(b1++rest)))):=DrawS.front (by have:=hs;rw [hi.split,e1] at this;simpa using this) (fun x hx=>hap i him x (by rw [e1];simp [hx]))
        have hi':DInv n P all cl (kn++(i::(a1++(b1++rest)))) r kn (i::(a1++(b1++rest))) nf ents h L:=⟨rfl,hi.lsize,hi.lsub,hi.lclosed,hi.ent1,hi.ent2,hi.ent3,hi.path,hi.fact⟩
        refine loud_step (Rg:=fun l nf r' h'=>l=erase1 i (m0::ms0)++rest∧regM P c n all cl K f (erase1 i (m0::ms0)) rest nf r' h') hs' hi' hoi' hoi hg1 ha1 hil he
         (opX_mono (fun v h'=>setP_mono fun r' hh=>⟨by rw [e2];simp,hh⟩) hA) hc hu ?_ hf
        rintro rest' kn nf ents h L g0 a w hi2 ⟨rfl,hr2⟩ hc2 hu2 hf2
        exact IH f _ (erase1 i (m0::ms0)) rest kn nf ents h L g0 a w hs' hi2 hr2 hc2 hu2 hf2
       ·obtain ⟨x,hx,hcx⟩:=hlate i hir
        have h1:=hclo x hcx
        have h2:=hi.lsub x h1
        have:=hs.p3
        rw [hi.split,List.nodup_append] at this
        exact absurd rfl (this.2.2 x h2 x (List.mem_append_left _ hx))
def rmk (P:Program) (c:Cfg) (n:Nat) (all:List Oper) (K:Regs→Heap→Prop):Nat→List Nat→List Nat→List Nat→Regs→Heap→Prop
 | 0,_,_,_,_,_=>False
 | f+1,ms,rest,nf,r,h=>match ms with
   | []=>rdraw P c n all K rest nf r h
   | m0::ms0=>match pickF (clos all []) (m0::ms0) rest with
     | some (q,rest2)=>(match all[q]? with
       | none=>False
       | some o=>match loudD c o with
         | true=>rmk P c n all K f (q::m0::ms0) rest2 nf r h
         | false=>entryQ P all r h (aftD (fun nf r h=>rmk P c n all K f (m0::ms0) rest2 nf r h) all q n o nf r h) o)
     | none=>(apartB (clos all []) (m0::ms0) (m0::ms0)&&allSome (clos all []) (m0::ms0) rest)=true∧eachM (fun m=>match all[m]? with
       | none=>False
       | some o=>(o.guard.isNone&&(makes o.op||(calm r o.op&&nfOKc (clos all []) all m nf)))=true∧opX P c.own c.lc o.dst r h (aftL (rmk P c n all K f (erase1 m (m0::ms0)) rest nf) n o.dst r) o.op) (m0::ms0)
theorem rmk_ok {c:Cfg} {K:Regs→Heap→Prop}:∀ {f:Nat} {ms rest nf:List Nat} {r:Regs} {h:Heap},rmk P c n all K f ms rest nf r h→regM P c n all (clos all []) K f ms rest nf r h
 | 0,ms,rest,nf,r,h,hh=>hh.elim
 | f+1,ms,rest,nf,r,h,hh=>by
   unfold rmk at hh
   unfold regM
   cases ms with
   | nil=>exact rdraw_ok (fun _ _ h=>h) hh
   | cons m0 ms0=>
     simp only at hh ⊢
     cases hp:pickF (clos all []) (m0::ms0) rest with
     | some x=>
       obtain ⟨q,rest2⟩:=x
       rw [hp] at hh
       simp only at hh ⊢
       cases ho:all[q]? with
       | none=>rw [ho] at hh;exact hh.elim
       | some o=>
         rw [ho] at hh
         simp only at hh ⊢
         cases hl:loudD c o with
         | true=>rw [hl] at hh;exact rmk_ok hh
         | false=>
           rw [hl] at hh
           simp only at hh ⊢
           refine entryQ_mono (fun g v hv=>?_) hh
           unfold aftD at hv
           cases hp:pathOK (clos all []) all q g with
           | false=>rw [hp] at hv;exact hv.elim
           | true=>
             rw [hp] at hv
             exact setP_mono (fun _=>rmk_ok) hv
     | none=>
       rw [hp] at hh
       simp only at hh ⊢
       refine ⟨hh.1,eachM_mono (fun m hm=>?_) hh.2⟩
       cases ho:all[m]? with
       | none=>rw [ho] at hm;exact hm.elim
       | some o=>
         rw [ho] at hm
         exact ⟨hm.1,opX_mono (fun v h'=>aftL_mono fun _ _=>rmk_ok) hm.2⟩
def rpre (P:Program) (c:Cfg) (n:Nat) (all:List Oper) (K:Regs→Heap→Prop) (ms post:List Nat):List Nat→List Nat→Regs→Heap→Prop
 | [],nf,r,h=>rmk P c n all K 100 ms post nf r h
 | i::pre,nf,r,h=>match all[i]? with
   | none=>False
   | some o=>match loudD c o with
     | true=>False
     | false=>entryQ P all r h (aftD (rpre P c n all K ms post pre) all i n o nf r h) o
theorem draw_gameP {c:Cfg} {K:Regs→Heap→Prop} {Q:Exit→Act→World→Prop} {ms post:List Nat} {fuel:Nat} {g0:Gh} {a:Act} {w:World} {L:Array Bool} (hs:DrawS all (clos all []) ord):∀ (pre kn nf:List Nat) (ents:List (Nat × Nat × G × AV)) (h:Heap),
  DInv n P all (clos all []) ord r kn (pre++(ms++post)) nf ents h L→rpre P c n all K ms post pre nf (entR ents r) h→Conc n X g0 (entR (entL L ents) r) h a w→unl all.length L≤fuel →
  (∀ r' h' g' a' w',K r' h'→Conc n X g' r' h' a' w'→Step X g0 h w g' h' w'→Q .normal a' w')→wpAny P .any all.toArray Q fuel L a w:=by
 intro pre
 induction pre with
 | nil=>intro kn nf ents h hi hr hc hu hf;exact draw_gameM fuel 100 ord ms post kn nf ents h L g0 a w hs hi (rmk_ok hr) hc hu hf
 | cons k pre ihr=>
   intro kn nf ents h hi hr hc hu hf
   have hko:k∈ord:=by rw [hi.split];simp
   have hnk:k ∉ kn:=by
    have:=hs.p3
    rw [hi.split,List.nodup_append] at this
    exact fun hm=>this.2.2 k hm k (by simp) rfl
   obtain ⟨hlt,o,ho⟩:=hi.lt hs hko
   have hkl:L.getD k false=false:=by
    cases hb:L.getD k false with
    | false=>rfl
    | true=>exact absurd (hi.lsub k hb) hnk
   have hedge:∀ e∈o.after.toList,Region.binds .any e=true→e.on∈kn:=by
    obtain ⟨o2,ho2,hh⟩:=hs.p4 kn k _ hi.split
    rw [ho] at ho2;cases ho2;exact hh
   have hclk:∀ j,Cl (clos all []) k j→j∈kn:=by
    intro j hj
    have:=(clo_closed hs (S:=fun i=>i∈kn∨i=k) (fun i hS=>by
     rcases hS with hS|rfl
     ·obtain ⟨o',ho',hh⟩:=hi.kn_closed hs i hS
      exact ⟨o',ho',fun e a b=>.inl (hh e a b)⟩
     ·exact ⟨o,ho,fun e a b=>.inl (hedge e a b)⟩) k (.inr rfl) j hj)
    rcases this.1 with h|rfl
    ·exact h
    ·exact absurd this.2 (Nat.lt_irrefl _)
   have hlook:∀ t∈readsOf all o,Look all (clos all []) ents r k t (lookR (entR ents r) t):=by
    intro t ht
    refine look_of hi hs ho (fun x hx=>hx) (fun j hj=>⟨hclk j hj,fun x hx _=>hx⟩) ?_ t ht
    intro x hx hcx
    exact hnk (hi.kn_clo hs (hi.ent1 x hx).1 hcx).1
   unfold rpre at hr
   rw [ho] at hr
   simp only at hr
   split at hr<;>try contradiction
   obtain ⟨g,v,hKv,hE⟩:=entryQ_val hr
   unfold aftD at hKv
   split at hKv<;>try contradiction
   rename_i hpath
   have hpath:=pathOK_ok hpath
   obtain ⟨nf2,hnf2⟩:∃ nf2,nf2=(match hfree (entR ents r) g o.op with|true=>nf|false=>k::nf):=⟨_,rfl⟩
   have hfr0:k ∉ nf2→∀ h',entryQ P all (entR ents r) h' (fun g' v'=>g'=g∧v'=v) o:=by
    intro hk' h'
    rw [hnf2] at hk'
    split at hk'
    ·rename_i hfr;exact entryQ_free hfr hE
    ·simp at hk'
   have hinc:∀ x∈nf,x∈nf2:=by
    intro x hx
    rw [hnf2]
    split
    ·exact hx
    ·exact List.mem_cons_of_mem _ hx
   have hold:∀ k'∈kn,L.getD k' false=false→∃ o g v Rk,all[k']?=some o∧entryQ P all Rk h (fun g' v'=>g'=g∧v'=v) o ∧
       (∀ t∈readsOf all o,Look all (clos all []) ents r k' t (lookR Rk t)) ∧
       (∀ d,o.dst=some d→(k',d,g,v)∈ents∧d<n∧(∀ e∈g,e.1≠d)∧∀ t gg v,lookR r t=some (gg,v)→∀ e∈gg,e.1≠d) ∧
       (k' ∉ nf2→∀ h',entryQ P all Rk h' (fun g' v'=>g'=g∧v'=v) o):=by
    intro k' hk' hl'
    obtain ⟨o',g2,v2,Rk,q1,q2,q3,q4,q5⟩:=hi.fact k' hk' hl'
    exact ⟨o',g2,v2,Rk,q1,q2,q3,q4,fun hh=>q5 fun hm=>hh (hinc _ hm)⟩
   cases hd:o.dst with
   | none=>
     rw [hd] at hKv
     have hi':=hi.enter (n:=n) (P:=P) (g:=g) (v:=v) (ents':=ents) (nf':=nf2) (h':=h) (L':=L) hs ho (by rw [hd]) hpath (.inl rfl) hold
      (fun _=>⟨o,g,v,entR ents r,ho,hE,hlook,fun d hd'=>(by rw [hd] at hd';cases hd'),hfr0⟩)
     exact ihr _ _ ents h hi' (by rw [hnf2];exact hKv) hc hu hf
   | some d=>
     rw [hd] at hKv
     unfold setP at hKv
     simp only at hKv
     split at hKv<;>try contradiction
     rename_i hdn
     rw [Nat.blt_eq] at hdn
     split at hKv<;>try contradiction
     rename_i hni
     obtain ⟨hn1,hn2⟩:=notIn_cons hni
     have hnr:=notIn_entR hn2
     have hi':=hi.enter (n:=n) (P:=P) (g:=g) (v:=v) (ents':=(k,d,g,v)::ents) (nf':=nf2) (h':=h) (L':=L) hs ho (by rw [hd]) hpath (.inl rfl) hold
      (fun _=>⟨o,g,v,entR ents r,ho,hE,fun t ht=>(hlook t ht).more (fun x hx=>List.mem_cons_of_mem _ hx),
        fun d' hd'=>(by rw [hd] at hd';cases hd';exact ⟨List.mem_cons_self,hdn,hn1,fun t gg vv hl=>notIn_look hnr hl⟩),hfr0⟩)
     refine ihr _ _ ((k,d,g,v)::ents) h hi' (by rw [hnf2];exact hKv) ?_ hu hf
     have hE:entL L ((k,d,g,v)::ents)=entL L ents:=by
      unfold entL
      rw [List.filter_cons,if_neg (by simp only [hkl];exact Bool.false_ne_true)]
     rw [hE]
     exact hc
theorem make_region {c:Cfg} {F:Func} {E:En} {p:List Bool} {S:List Fr} {k id:Nat} {ops:Array Oper} {r:Regs} {h:Heap} (hcat:cat F p=.region id ops true) (hm:P.follows .mixedOrders=true) (pre ms post:List Nat) (fz:List Nat)
  (hd:drawOK (opsAt F p) (pre++(ms++post))=true)
  (hr:rpre P c E.n (opsAt F p) (fun r' h'=>frzP (fun r'' h''=>normK r'' (fun r3=>TurnTo (run P c F E k (.ex .normal) S) r3 h'') c.keep) fz r' h') ms post pre [] r h) :
  Holds P E.n E.X (cat F p) (fun e r h=>run P c F E k (.ex e) S r h) r h:=by
 have ho:=opsAt_eq hcat
 rw [ho] at hd hr
 rw [hcat]
 refine ⟨fun g a w hc=>?_⟩
 refine wp_region_any hm ?_
 obtain ⟨dc,ds⟩:=hc.cw.drew
 have hs:=drawS hd
 have hc':Conc E.n E.X g r h a w.drew:=hc.step dc ds
 have hi:DInv E.n P ops.toList (clos ops.toList []) (pre++(ms++post)) r [] (pre++(ms++post)) [] [] h (Array.replicate ops.size false):=by
  have hrep:∀ i,(Array.replicate ops.size false).getD i false=false:=by
   intro i
   by_cases hi:i<ops.size<;>simp [hi]
  refine ⟨rfl,by simp,?_,?_,by simp,by simp,by simp,by simp,by simp⟩
  ·intro i hL;rw [hrep i] at hL;cases hL
  ·intro i hL;rw [hrep i] at hL;cases hL
 have:=draw_gameP (n:=E.n) (X:=E.X) (r:=r) (c:=c) (fuel:=ops.size) (g0:=g) (a:=a) (w:=w.drew) (L:=Array.replicate ops.size false) (Q:=fun e a' w'=>∃ ex g' r' h',e=Ex.toExit ex∧run P c F E k (.ex ex) S r' h'∧Conc E.n E.X g' r' h' a' w'∧Step E.X g h w g' h' w') hs pre [] [] [] h
  hi hr hc' (by unfold unl;exact Nat.le_trans (List.length_filter_le _ _) (by simp)) (by
   intro r' h' g' a' w' hK hc2 hst
   obtain ⟨r2,h2,hK,hc3,hst3⟩:=frzP_ok hK hc2
   obtain ⟨r3,hK,hl⟩:=normK_ok (k:=fun r3=>TurnTo (run P c F E k (.ex .normal) S) r3 h2) hK
   obtain ⟨r4,h4,ht,hK⟩:=hK
   obtain ⟨g4,hc4,hst4⟩:=ht _ _ _ _ _ (hc3.less hl)
   exact ⟨.normal,g4,r4,h4,rfl,hK,hc4,ds.trans hc.cw.own (hst.trans hc'.cw.own (hst3.trans hc2.cw.own hst4))⟩)
 exact this
end Go.Abs
/-
 DERIVED: THE SHELF's CONTRACTS AT THIS DUMP,IN PLAIN WORDS (tools/lay-plain.mjs out of 'YtddhcllidlclmaaGreatSoA.lean',which tools/lay-shelf.mjs wrote): THE SAME DECLARATIONS UNDER THE SAME NAMES: 'import','namespace','open','def','theorem' AND NOTHING ELSE: no command of the shelf's: FOR A HAND-IN. Each laying: the table of numbers ('.._ren') and one theorem,a field a fact of the dump's own or the kernel's comparison;each contract: ONE APPLICATION.
-/
namespace Go.Proofs
open Go.Shelf
def Tryz.sortUse_ren:Go.Shelf.Ren:=⟨fun|6=>91|15=>97|14=>123|28=>138|29=>139|20=>153|21=>154|22=>155|23=>156|24=>157|25=>158|26=>159|27=>160|46=>169|47=>164|48=>165|49=>170|50=>171|57=>174|n=>n,fun|22=>55|24=>142|25=>185|3=>3|39=>190|0=>0|53=>226|55=>228|4=>4|46=>220|45=>219|50=>204|5=>5|9=>9|66=>248|70=>252|76=>256|77=>257|n=>n,fun|n=>n⟩
theorem Tryz.sortUse:Go.Proofs.SlLaysF0.n6 Tryz.prog Tryz.sortUse_ren:={
 mixed:=by kernel_rfl
 f6:=⟨Tryz.f91.name,by decide,Tryz.func91.trans (congrArg some (by kernel_rfl))⟩
 f14:=⟨Tryz.f123.name,by decide,Tryz.func123.trans (congrArg some (by kernel_rfl))⟩
 f15:=Tryz.func97.trans (congrArg some (by kernel_rfl))
 f20:=⟨Tryz.f153.name,by decide,Tryz.func153.trans (congrArg some (by kernel_rfl))⟩
 f21:=⟨Tryz.f154.name,by decide,Tryz.func154.trans (congrArg some (by kernel_rfl))⟩
 f22:=⟨Tryz.f155.name,by decide,Tryz.func155.trans (congrArg some (by kernel_rfl))⟩
 f23:=⟨Tryz.f156.name,by decide,Tryz.func156.trans (congrArg some (by kernel_rfl))⟩
 f24:=⟨Tryz.f157.name,by decide,Tryz.func157.trans (congrArg some (by kernel_rfl))⟩
 f25:=⟨Tryz.f158.name,by decide,Tryz.func158.trans (congrArg some (by kernel_rfl))⟩
 f26:=⟨Tryz.f159.name,by decide,Tryz.func159.trans (congrArg some (by kernel_rfl))⟩
 f27:=⟨Tryz.f160.name,by decide,Tryz.func160.trans (congrArg some (by kernel_rfl))⟩
 f28:=Tryz.func138.trans (congrArg some (by kernel_rfl))
 f29:=Tryz.func139.trans (congrArg some (by kernel_rfl))
 f46:=⟨Tryz.f169.name,by decide,Tryz.func169.trans (congrArg some (by kernel_rfl))⟩
 f47:=Tryz.func164.trans (congrArg some (by kernel_rfl))
 f48:=Tryz.func165.trans (congrArg some (by kernel_rfl))
 f49:=⟨Tryz.f170.name,by decide,Tryz.func170.trans (congrArg some (by kernel_rfl))⟩
 f50:=⟨Tryz.f171.name,by decide,Tryz.func171.trans (congrArg some (by kernel_rfl))⟩
 f57:=⟨Tryz.f174.name,by decide,Tryz.func174.trans (congrArg some (by kernel_rfl))⟩
 t0:=Tryz.underlying0
 a0:=Tryz.isAgg0
 z0:=Tryz.sizeOf0
 v0:=Tryz.zeroValue0
 t3:=Tryz.underlying3
 a3:=Tryz.isAgg3
 z3:=Tryz.sizeOf3
 v3:=Tryz.zeroValue3
 t4:=Tryz.underlying4
 a4:=Tryz.isAgg4
 z4:=Tryz.sizeOf4
 v4:=Tryz.zeroValue4
 t5:=Tryz.underlying5
 a5:=Tryz.isAgg5
 z5:=Tryz.sizeOf5
 v5:=Tryz.zeroValue5
 t9:=Tryz.underlying9
 a9:=Tryz.isAgg9
 z9:=Tryz.sizeOf9
 v9:=Tryz.zeroValue9
 t22:=Tryz.underlying55
 a22:=Tryz.isAgg55
 z22:=Tryz.sizeOf55
 v22:=Tryz.zeroValue55
 t25:=Tryz.underlying185
 a25:=Tryz.isAgg185
 z25:=Tryz.sizeOf185
 v25:=Tryz.zeroValue185
 t39:=Tryz.underlying190
 a39:=Tryz.isAgg190
 z39:=Tryz.sizeOf190
 v39:=Tryz.zeroValue190
 t45:=Tryz.underlying219
 a45:=Tryz.isAgg219
 z45:=Tryz.sizeOf219
 v45:=Tryz.zeroValue219
 t46:=Tryz.underlying220
 a46:=Tryz.isAgg220
 z46:=Tryz.sizeOf220
 v46:=Tryz.zeroValue220
 t50:=Tryz.underlying204
 a50:=Tryz.isAgg204
 z50:=Tryz.sizeOf204
 v50:=Tryz.zeroValue204
 t53:=Tryz.underlying226
 a53:=Tryz.isAgg226
 z53:=Tryz.sizeOf226
 v53:=Tryz.zeroValue226
 t55:=Tryz.underlying228
 a55:=Tryz.isAgg228
 z55:=Tryz.sizeOf228
 v55:=Tryz.zeroValue228
 t66:=Tryz.underlying248
 a66:=Tryz.isAgg248
 z66:=Tryz.sizeOf248
 v66:=Tryz.zeroValue248
 t70:=Tryz.underlying252
 a70:=Tryz.isAgg252
 z70:=Tryz.sizeOf252
 v70:=Tryz.zeroValue252
 t76:=Tryz.underlying256
 a76:=Tryz.isAgg256
 z76:=Tryz.sizeOf256
 v76:=Tryz.zeroValue256
 t77:=Tryz.underlying257
 a77:=Tryz.isAgg257
 z77:=Tryz.sizeOf257
 v77:=Tryz.zeroValue257 }
def Tryz.sortEdge_ren:Go.Shelf.Ren:=⟨fun|6=>70|15=>97|14=>96|28=>138|29=>139|20=>130|21=>131|22=>132|23=>133|24=>134|25=>135|26=>136|27=>137|46=>163|47=>164|48=>165|49=>166|50=>167|57=>172|n=>n,fun|22=>50|24=>59|25=>153|3=>3|39=>190|0=>0|53=>226|55=>228|4=>4|46=>220|45=>219|50=>204|5=>5|9=>9|66=>248|70=>252|76=>256|77=>257|n=>n,fun|n=>n⟩
theorem Tryz.sortEdge:Go.Proofs.SlLaysF0.n6 Tryz.prog Tryz.sortEdge_ren:={
 mixed:=by kernel_rfl
 f6:=⟨Tryz.f70.name,by decide,Tryz.func70.trans (congrArg some (by kernel_rfl))⟩
 f14:=⟨Tryz.f96.name,by decide,Tryz.func96.trans (congrArg some (by kernel_rfl))⟩
 f15:=Tryz.func97.trans (congrArg some (by kernel_rfl))
 f20:=⟨Tryz.f130.name,by decide,Tryz.func130.trans (congrArg some (by kernel_rfl))⟩
 f21:=⟨Tryz.f131.name,by decide,Tryz.func131.trans (congrArg some (by kernel_rfl))⟩
 f22:=⟨Tryz.f132.name,by decide,Tryz.func132.trans (congrArg some (by kernel_rfl))⟩
 f23:=⟨Tryz.f133.name,by decide,Tryz.func133.trans (congrArg some (by kernel_rfl))⟩
 f24:=⟨Tryz.f134.name,by decide,Tryz.func134.trans (congrArg some (by kernel_rfl))⟩
 f25:=⟨Tryz.f135.name,by decide,Tryz.func135.trans (congrArg some (by kernel_rfl))⟩
 f26:=⟨Tryz.f136.name,by decide,Tryz.func136.trans (congrArg some (by kernel_rfl))⟩
 f27:=⟨Tryz.f137.name,by decide,Tryz.func137.trans (congrArg some (by kernel_rfl))⟩
 f28:=Tryz.func138.trans (congrArg some (by kernel_rfl))
 f29:=Tryz.func139.trans (congrArg some (by kernel_rfl))
 f46:=⟨Tryz.f163.name,by decide,Tryz.func163.trans (congrArg some (by kernel_rfl))⟩
 f47:=Tryz.func164.trans (congrArg some (by kernel_rfl))
 f48:=Tryz.func165.trans (congrArg some (by kernel_rfl))
 f49:=⟨Tryz.f166.name,by decide,Tryz.func166.trans (congrArg some (by kernel_rfl))⟩
 f50:=⟨Tryz.f167.name,by decide,Tryz.func167.trans (congrArg some (by kernel_rfl))⟩
 f57:=⟨Tryz.f172.name,by decide,Tryz.func172.trans (congrArg some (by kernel_rfl))⟩
 t0:=Tryz.underlying0
 a0:=Tryz.isAgg0
 z0:=Tryz.sizeOf0
 v0:=Tryz.zeroValue0
 t3:=Tryz.underlying3
 a3:=Tryz.isAgg3
 z3:=Tryz.sizeOf3
 v3:=Tryz.zeroValue3
 t4:=Tryz.underlying4
 a4:=Tryz.isAgg4
 z4:=Tryz.sizeOf4
 v4:=Tryz.zeroValue4
 t5:=Tryz.underlying5
 a5:=Tryz.isAgg5
 z5:=Tryz.sizeOf5
 v5:=Tryz.zeroValue5
 t9:=Tryz.underlying9
 a9:=Tryz.isAgg9
 z9:=Tryz.sizeOf9
 v9:=Tryz.zeroValue9
 t22:=Tryz.underlying50
 a22:=Tryz.isAgg50
 z22:=Tryz.sizeOf50
 v22:=Tryz.zeroValue50
 t25:=Tryz.underlying153
 a25:=Tryz.isAgg153
 z25:=Tryz.sizeOf153
 v25:=Tryz.zeroValue153
 t39:=Tryz.underlying190
 a39:=Tryz.isAgg190
 z39:=Tryz.sizeOf190
 v39:=Tryz.zeroValue190
 t45:=Tryz.underlying219
 a45:=Tryz.isAgg219
 z45:=Tryz.sizeOf219
 v45:=Tryz.zeroValue219
 t46:=Tryz.underlying220
 a46:=Tryz.isAgg220
 z46:=Tryz.sizeOf220
 v46:=Tryz.zeroValue220
 t50:=Tryz.underlying204
 a50:=Tryz.isAgg204
 z50:=Tryz.sizeOf204
 v50:=Tryz.zeroValue204
 t53:=Tryz.underlying226
 a53:=Tryz.isAgg226
 z53:=Tryz.sizeOf226
 v53:=Tryz.zeroValue226
 t55:=Tryz.underlying228
 a55:=Tryz.isAgg228
 z55:=Tryz.sizeOf228
 v55:=Tryz.zeroValue228
 t66:=Tryz.underlying248
 a66:=Tryz.isAgg248
 z66:=Tryz.sizeOf248
 v66:=Tryz.zeroValue248
 t70:=Tryz.underlying252
 a70:=Tryz.isAgg252
 z70:=Tryz.sizeOf252
 v70:=Tryz.zeroValue252
 t76:=Tryz.underlying256
 a76:=Tryz.isAgg256
 z76:=Tryz.sizeOf256
 v76:=Tryz.zeroValue256
 t77:=Tryz.underlying257
 a77:=Tryz.isAgg257
 z77:=Tryz.sizeOf257
 v77:=Tryz.zeroValue257 }
end Go.Proofs
namespace Go.Proofs
end Go.Proofs
/-
 The abstract layer,part Z2: the library's sort by a function that compares,at rows of elements of k cells.
-/
namespace Go.Abs
open Go Go.Sort Go.Proofs
variable {P:Program} {X:Nat→Prop} {g0:Gh} {h:Heap} {w:World}
theorem RepVs.ofGet {c:Cx}:∀ {xs:List AV} {us:List Value},xs.length=us.length→(∀ (i:Nat) x u,xs[i]?=some x→us[i]?=some u→Rep c x u)→RepVs c xs us
 | [],[],_,_=>by simp [RepVs]
 | x::xs,u::us,hl,h=>by
   simp only [RepVs]
   exact ⟨u,us,rfl,h 0 x u rfl rfl,RepVs.ofGet (by simpa using hl) fun i x u h1 h2=>h (i+1) x u (by simpa using h1) (by simpa using h2)⟩
 | [],_::_,hl,_=>by simp at hl
 | _::_,[],hl,_=>by simp at hl
theorem flatten_len {β:Type} {k:Nat}:∀ {L:List (List β)},(∀ x∈L,x.length=k)→L.flatten.length=L.length*k
 | [],_=>by simp
 | x::L,h=>by
   rw [List.flatten_cons,List.length_append,flatten_len (fun y hy=>h y (by simp [hy])),h x (by simp),List.length_cons,Nat.add_mul];omega
theorem flatten_get {β:Type} {k:Nat} (hk:0<k):∀ {L:List (List β)} {i j:Nat} {x:List β},(∀ x∈L,x.length=k)→L[i]?=some x→j<k→L.flatten[i*k+j]?=x[j]?
 | [],i,j,x,_,hx,_=>by simp at hx
 | y::L,0,j,x,h,hx,hj=>by
   simp at hx;subst hx
   have:=h y (by simp)
   rw [List.flatten_cons,Nat.zero_mul,Nat.zero_add,List.getElem?_append_left (by omega)]
 | y::L,i+1,j,x,h,hx,hj=>by
   have hy:=h y (by simp)
   have e:(i+1)*k+j=y.length+(i*k+j):=by rw [hy,Nat.add_mul];omega
   rw [List.flatten_cons,e,List.getElem?_append_right (by omega),Nat.add_sub_cancel_left]
   exact flatten_get hk (fun z hz=>h z (by simp [hz])) (by simpa using hx) hj
theorem divmod {t n k:Nat} (h:t<n*k):t / k<n∧t % k<k∧t=t / k*k+t % k:=by
 have k0:0<k:=by rcases Nat.eq_zero_or_pos k with h0|h0;subst h0;simp at h;exact h0
 refine ⟨(Nat.div_lt_iff_lt_mul k0).2 h,Nat.mod_lt _ k0,?_⟩
 have:=Nat.div_add_mod t k
 rw [Nat.mul_comm] at this;omega
theorem vec_turned2 {l1 l2:Heap} {b:Nat} {cs l:List AV} {us:List Value} {w':World} {p:Addr} {cc cc':Array Value} {t:TypeId} (hc:CW X g0 (l1++(b,.vec cs)::l2) w)
  (h1:g0.pl b=some p) (h4:w.heap[p.block]?=some (.cells cc t (0,0))) (hlen:l.length=cs.length)
  (e7:w'.os=w.os) (e8:w'.tape=w.tape∧w.drawn≤w'.drawn) (e9:w'.output=w.output) (e6:w.heap.size≤w'.heap.size) (e5:∀ blk,blk<w.heap.size→blk≠p.block→w'.heap[blk]?=w.heap[blk]?)
  (e1:w'.heap[p.block]?=some (.cells cc' t (0,0))) (e2:cc'.size=cc.size) (e4:∀ (j:Nat) u,us[j]?=some u→cc'[p.off+j]?=some u)
  (hus:RepVs ⟨g0,live X (l1++(b,.vec cs)::l2),w⟩ l us) (ho:∀ u∈us,u.oneCell'=true) :
  CW X g0 (l1++(b,.vec l)::l2) w'∧Step X g0 (l1++(b,.vec cs)::l2) w g0 (l1++(b,.vec l)::l2) w':=by
 have hob:=hc.obj b (.vec cs) (by simp)
 obtain ⟨p',cc0,t0,a1,h2,h3,a4,h5,h6⟩:=hob
 simp only at a1 h3 a4
 rw [h1] at a1;cases a1
 rw [h4] at a4;cases a4
 have hul:=hus.length
 have hbk:b∈keys (l1++(b,.vec cs)::l2):=by rw [keys_mem];exact .inl rfl
 have hst:Step X g0 (l1++(b,.vec cs)::l2) w g0 (l1++(b,.vec l)::l2) w':=by
  refine ⟨e7,e8,e9,e6,fun _ _ e=>e,fun _ _ _ e _=>e,fun _ _ _ e _=>e,fun _ _ e=>e,?_,?_,?_⟩
  ·intro blk hb hn
   have hne:blk≠p.block:=fun e=>hn b 0 (e ▸ h3) hbk
   refine ⟨e5 blk hb hne,fun k s hk hm=>hn k s hk ?_⟩
   rw [keys_mem] at hm ⊢;exact hm
  ·intro blk k s hk hm dd tt ff hdd
   by_cases e:blk=p.block
   ·subst e
    rw [h3] at hk;cases hk
    rw [h4] at hdd;cases hdd
    exact ⟨cc',e1,e2,fun o ho=>by omega⟩
   ·exact ⟨dd,(e5 blk (hc.own _ _ _ hk) e).trans hdd,rfl,fun _ _=>rfl⟩
  ·intro blk k s hk _ k' s' hk' _
   rw [hk] at hk';cases hk';exact Nat.le_refl _
 refine ⟨?_,hst⟩
 refine hc.replace hst (fun blk k s hk=>by have:=hc.own _ _ _ hk;omega) (.inl rfl) (fun k hk=>.inr hk) (fun blk s k hk=>.inr ⟨blk,s,hk⟩) ?_ ?_
 ·intro blk k s hk hm
  have hne:blk≠p.block:=by
   intro e;rw [e,h3] at hk;cases hk
   exact hc.notmem hm
  exact ⟨e5 blk (hc.own _ _ _ hk) hne,rfl⟩
 ·refine ⟨p,cc',t,h1,h2,h3,e1,by omega,?_⟩
  intro i x hx
  obtain ⟨u,hu,hr⟩:=hus.get _ _ hx
  exact ⟨u,e4 i u hu,ho u (List.mem_of_getElem? hu),Rep.mono (Step.le hst) _ _ hr⟩
def SortLaw (P:Program) (f g k:Nat):Prop:=∀ (α:Type) (_:Inhabited α) (enc:α→List Value) (cf:α→α→Int) (blk off cap:Nat) (d:Array α) (w:World),
 (∀ x,(enc x).length=k)→(∀ x,∀ v∈enc x,v.oneCell'=true)→SWO (ltOf cf)→CmpLays P g #[] enc k cf blk off d.size w→HoldsK enc k w blk off d→blk<w.heap.size→d.size<4611686018427387904 →
 Calls P f #[.slice (some ⟨blk,off,none⟩) d.size cap,.func (.func g) #[] #[]] w fun e w'=>e=.returned (.tuple #[])∧∃ d' n os,PermIn 0 d.size d d'∧SortedIn (ltOf cf) 0 d.size d'∧w'=sortWorldK enc k w blk off n d' os
theorem world_grown {w w':World} (h1:w'.os=w.os) (h2:w'.tape=w.tape∧w.drawn≤w'.drawn) (h3:w'.output=w.output) (h4:w.heap.size≤w'.heap.size) (h5:∀ b,b<w.heap.size→w'.heap[b]?=w.heap[b]?) :
  ∃ q os',w'=grow (w.drewN q) os':=by
 refine ⟨w'.drawn - w.drawn,w'.heap.extract w.heap.size w'.heap.size,?_⟩
 obtain ⟨hp,tp,dr,os,out⟩:=w'
 simp only at h1 h2 h3 h4 h5
 obtain ⟨h2,h6⟩:=h2
 subst h1 h2 h3
 have e1:w.drawn+(dr - w.drawn)=dr:=by omega
 have e2:hp=w.heap++hp.extract w.heap.size hp.size:=by
  refine Array.ext_getElem? fun i=>?_
  by_cases hi:i<w.heap.size
  ·rw [Array.getElem?_append_left hi];exact h5 i hi
  ·rw [Array.getElem?_append_right (by omega),Array.getElem?_extract]
   by_cases hj:i<hp.size
   ·rw [if_pos (by omega)]
    congr 1;omega
   ·rw [if_neg (by omega),Array.getElem?_eq_none (by omega)]
 unfold grow World.drewN
 simp only
 rw [← e2,e1]
section
variable {f g k:Nat}
theorem sortF_acalls (hk0:0<k) (hf:Callable P f) (hcg:Callable P g) (hs:SortLaw P f g k) (cmp:List AV→List AV→Int) (xs:List (List AV)) (hxk:∀ x∈xs,x.length=k) (hne:xs≠[]) (hlx:xs.length≤4294967296)
  (hcmp:∀ x∈xs,∀ y∈xs,QCall P g [.agg x,.agg y] [] (.int .i64 (cmp x y)))
  (hirr:∀ x∈xs,¬ cmp x x<0) (htr:∀ x∈xs,∀ y∈xs,∀ z∈xs,cmp x y<0→cmp y z<0→cmp x z<0) (hnt:∀ x∈xs,∀ y∈xs,∀ z∈xs,¬ cmp x y<0→¬ cmp y z<0→¬ cmp x z<0)
  (b:Nat):ACalls P f [.osl b 0 xs.length k,.fn g []] [(b,.vec xs.flatten)] (fun v h'=>v=.tup []∧∃ ys:List (List AV),h'=[(b,.vec ys.flatten)]∧ys.Perm xs∧ys.Pairwise fun x y=>¬ cmp y x<0):=by
 refine ⟨fun X g0 w us hc hr=>.inl ⟨hf,?_⟩⟩
 simp only [RepVs] at hr
 obtain ⟨u,r,hus,hx,u2,r2,e2,hx2,hr⟩:=hr
 subst e2 hr
 obtain ⟨p,cap,hp,hsp,rfl,x2,x3,x4,x5,_⟩:=hx.oslE (List.length_pos_iff.2 hne)
 simp only [Rep] at hx2
 obtain ⟨us2,rfl,hx2⟩:=hx2
 try simp only [RepVs] at hx2
 have hus2:us2=#[]:=by rw [← Array.toList_inj];simpa using hx2
 subst hus2
 try simp only at hp x5
 obtain ⟨q,cc,t,h1,h2,h3,h4,h5,h6⟩:=hc.obj b _ (List.mem_singleton.2 rfl)
 simp only at h1 h3 h4
 rw [hp] at h1;cases h1
 have hfl:=flatten_len hxk
 rw [hfl] at h5
 have hn:0<xs.length:=List.length_pos_iff.2 hne
 obtain ⟨n,hn'⟩:∃ n,xs.length=n:=⟨_,rfl⟩
 rw [hn'] at hfl h5 hn hlx x2 x3 hus
 have hlt:p.block<w.heap.size:=(Array.getElem?_eq_some_iff.1 h4).1
 let E:Fin n→List Value:=fun i=>(List.range k).map fun j=>cc[p.off+(i.val*k+j)]!
 have hEk:∀ i,(E i).length=k:=fun i=>by simp [E]
 have hEget:∀ (i:Fin n) (j:Nat),j<k→(E i)[j]?=some (cc[p.off+(i.val*k+j)]!):=fun i j hj=>by simp [E,hj]
 have hxget:∀ (i:Fin n),xs[i.val]?=some (xs[i.val]'(by have:=i.2;omega)):=fun i=>List.getElem?_eq_getElem (by have:=i.2;omega)
 let V:Fin n→List AV:=fun i=>xs[i.val]'(by have:=i.2;omega)
 have hVm:∀ i,V i∈xs:=fun i=>List.getElem_mem _
 have hidx:∀ (i:Fin n) (j:Nat),j<k→i.val*k+j<n*k:=fun i j hj=>by
  have:(i.val+1)*k≤n*k:=Nat.mul_le_mul_right k i.2
  rw [Nat.add_mul,Nat.one_mul] at this
  omega
 have hcell:∀ (i:Fin n) (j:Nat),j<k→∃ x,(V i)[j]?=some x∧cc[p.off+(i.val*k+j)]?=some (cc[p.off+(i.val*k+j)]!)∧(cc[p.off+(i.val*k+j)]!).oneCell'=true∧Rep ⟨g0,live X [(b,.vec xs.flatten)],w⟩ x (cc[p.off+(i.val*k+j)]!):=fun i j hj=>by
  have hl:j<(V i).length:=by rw [hxk _ (hVm i)];exact hj
  have hg:=flatten_get hk0 hxk (hxget i) hj
  obtain ⟨u,a1,a2,a3⟩:=h6 (i.val*k+j) (V i)[j] (by rw [hg];exact List.getElem?_eq_getElem hl)
  have a1':cc[p.off+(i.val*k+j)]! = u:=by
   have hlt2:=(Array.getElem?_eq_some_iff.1 a1).1
   rw [getElem!_pos cc _ hlt2];exact (Array.getElem?_eq_some_iff.1 a1).2
  refine ⟨(V i)[j],List.getElem?_eq_getElem hl,?_,?_,?_⟩
  ·rw [a1'];exact a1
  ·rw [a1'];exact a2
  ·rw [a1'];exact a3
 have hE1:∀ i,∀ v∈E i,v.oneCell'=true:=fun i v hv=>by
  obtain ⟨j,hj,rfl⟩:=List.mem_map.1 hv
  obtain ⟨_,_,_,a3,_⟩:=hcell i j (List.mem_range.1 hj)
  exact a3
 have hRepE:∀ i,RepVs ⟨g0,live X [(b,.vec xs.flatten)],w⟩ (V i) (E i):=fun i=>by
  refine RepVs.ofGet (by rw [hxk _ (hVm i),hEk]) fun j x u hx hu=>?_
  have hj:j<k:=by have:=(List.getElem?_eq_some_iff.1 hu).1;rw [hEk] at this;exact this
  obtain ⟨x',b1,_,_,b4⟩:=hcell i j hj
  rw [hEget i j hj] at hu
  rw [hx] at b1;cases b1;cases hu
  exact b4
 let cf:Fin n→Fin n→Int:=fun i j=>cmp (V i) (V j)
 have hI:Inhabited (Fin n):=⟨⟨0,hn⟩⟩
 let d:Array (Fin n):=Array.ofFn fun i:Fin n=>i
 have hds:d.size=n:=by simp [d]
 have hdg:∀ i (hi:i<n),d[i]! = ⟨i,hi⟩:=fun i hi=>by
  rw [getElem!_pos d i (by rw [hds];exact hi)];simp [d]
 have hH:HoldsK E k w p.block (p.off+0) d:=by
  intro t ht
  rw [size_flatK,hds] at ht
  obtain ⟨m1,m2,m3⟩:=divmod ht
  rw [get_flatK E k d t (by rw [hds];exact ht),hdg _ m1,Nat.add_zero]
  refine ⟨?_,frozen_of_row w p.block _ cc _ h4⟩
  rw [cell_of_row w p.block _ cc _ _ h4]
  obtain ⟨x,b1,b2,b3,b4⟩:=hcell ⟨t / k,m1⟩ (t % k) m2
  have hlt2:t % k<(E ⟨t / k,m1⟩).length:=by rw [hEk];exact m2
  show cc[p.off+t]?=some (id ((E ⟨t / k,m1⟩)[t % k]!))
  rw [getElem!_pos (E ⟨t / k,m1⟩) (t % k) hlt2]
  have:=hEget ⟨t / k,m1⟩ (t % k) m2
  rw [List.getElem?_eq_getElem hlt2] at this
  rw [id,Option.some.inj this]
  simp only at b2
  rw [← m3] at b2 ⊢
  exact b2
 -- any row of the sort's
 have turned:∀ (dk:Array (Fin n)) (m:Nat) (os:Array Obj),dk.size=n →
   CW X g0 [(b,.vec (dk.toList.map V).flatten)] (sortWorldK E k w p.block (p.off+0) m dk os)∧Step X g0 [(b,.vec xs.flatten)] w g0 [(b,.vec (dk.toList.map V).flatten)] (sortWorldK E k w p.block (p.off+0) m dk os):=by
  intro dk m os hdk
  have hVk:∀ x∈dk.toList.map V,x.length=k:=fun x hx=>by
   obtain ⟨i,_,rfl⟩:=List.mem_map.1 hx;exact hxk _ (hVm i)
  have hdt:dk.toList.length=n:=by simpa using hdk
  have hfl2:((dk.toList.map V).flatten).length=n*k:=by rw [flatten_len hVk,List.length_map,hdt]
  have hEk2:∀ x∈dk.toList.map E,x.length=k:=fun x hx=>by
   obtain ⟨i,_,rfl⟩:=List.mem_map.1 hx;exact hEk i
  have hfl3:((dk.toList.map E).flatten).length=n*k:=by rw [flatten_len hEk2,List.length_map,hdt]
  have hheap:(putRowK E k (Sort.ahead w m) p.block (p.off+0) dk).heap=w.heap.modify p.block (onCells (putCells id (p.off+0) (flatK E k dk))):=rfl
  have hdl:∀ i,i<n→dk.toList[i]?=some (dk[i]!):=fun i hi=>by
   rw [Array.getElem?_toList,Array.getElem?_eq_getElem (by omega),getElem!_pos dk i (by omega)]
  have hVg:∀ t,t<n*k→((dk.toList.map V).flatten)[t]?=(V dk[t / k]!)[t % k]?:=fun t ht=>by
   obtain ⟨m1,m2,m3⟩:=divmod ht
   have:=flatten_get (i:=t / k) (j:=t % k) (x:=V dk[t / k]!) hk0 hVk (by rw [List.getElem?_map,hdl _ m1];rfl) m2
   rw [← m3] at this;exact this
  have hEg:∀ t,t<n*k→((dk.toList.map E).flatten)[t]?=(E dk[t / k]!)[t % k]?:=fun t ht=>by
   obtain ⟨m1,m2,m3⟩:=divmod ht
   have:=flatten_get (i:=t / k) (j:=t % k) (x:=E dk[t / k]!) hk0 hEk2 (by rw [List.getElem?_map,hdl _ m1];rfl) m2
   rw [← m3] at this;exact this
  refine vec_turned2 (l1:=[]) (l2:=[]) (l:=(dk.toList.map V).flatten) (us:=(dk.toList.map E).flatten) (w':=sortWorldK E k w p.block (p.off+0) m dk os) (cc':=putCells id (p.off+0) (flatK E k dk) cc)
   hc hp h4 (by rw [hfl2,hfl]) rfl ⟨rfl,Nat.le_add_right _ _⟩ rfl (by
    have e0:(putRowK E k (Sort.ahead w m) p.block (p.off+0) dk).heap.size=w.heap.size:=by rw [hheap];simp
    unfold sortWorldK grow
    simp only [Array.size_append]
    omega) (fun blk hb hne=>?_) ?_ (by simp [putCells]) (fun t u hu=>?_) (RepVs.ofGet (by rw [hfl2,hfl3]) fun t x u hx hu=>?_) (fun u hu=>?_)
  ·unfold sortWorldK
   rw [heap_grow_old _ _ (by rw [hheap];simpa using hb),hheap,Array.getElem?_modify,if_neg (Ne.symm hne)]
  ·unfold sortWorldK
   rw [heap_grow_old _ _ (by rw [hheap];simpa using hlt),hheap,Array.getElem?_modify,if_pos rfl,h4];rfl
  ·have ht:t<n*k:=by have:=(List.getElem?_eq_some_iff.1 hu).1;rw [hfl3] at this;exact this
   rw [hEg t ht] at hu
   have hlt2:p.off+t<cc.size:=by omega
   simp only [putCells,Array.getElem?_mapIdx,Array.getElem?_eq_getElem hlt2,Option.map_some,Nat.add_zero,size_flatK,hdk]
   rw [if_pos ⟨by omega,by omega⟩,show p.off+t - p.off=t from by omega,get_flatK E k dk t (by rw [hdk];exact ht)]
   obtain ⟨m1,m2,m3⟩:=divmod ht
   have hl:t % k<(E dk[t / k]!).length:=by rw [hEk];exact m2
   rw [List.getElem?_eq_getElem hl] at hu
   rw [getElem!_pos (E dk[t / k]!) (t % k) hl];exact hu
  ·have ht:t<n*k:=by have:=(List.getElem?_eq_some_iff.1 hu).1;rw [hfl3] at this;exact this
   rw [hEg t ht] at hu
   rw [hVg t ht] at hx
   obtain ⟨u',a1,a2⟩:=(hRepE dk[t / k]!).get _ _ hx
   rw [hu] at a1;cases a1
   exact a2
  ·rw [List.mem_flatten] at hu
   obtain ⟨l,hl,hu⟩:=hu
   obtain ⟨i,_,rfl⟩:=List.mem_map.1 hl
   exact hE1 i u hu
 have hcmpL:CmpLays P g #[] E k cf p.block (p.off+0) d.size w:=by
  intro m os dk hdk x y
  rw [hds] at hdk
  obtain ⟨c1,s1⟩:=turned dk m os hdk
  obtain ⟨c2,s2⟩:=c1.sub (h':=[]) (fun k o hm=>by cases hm) (by simp [keys])
  have hq:=hcmp (V x) (hVm x) (V y) (hVm y)
  have hrx:RepVs ⟨g0,live X [],sortWorldK E k w p.block (p.off+0) m dk os⟩ [.agg (V x),.agg (V y)] [.agg (E x).toArray,.agg (E y).toArray]:=by
   have up:∀ i,RepVs ⟨g0,live X [],sortWorldK E k w p.block (p.off+0) m dk os⟩ (V i) (E i):=fun i=>RepVs.mono (Step.le (s1.trans hc.own s2)) _ _ (hRepE i)
   simp only [RepVs]
   refine ⟨_,_,rfl,?_,_,_,rfl,?_,rfl⟩
   ·rw [Rep];exact ⟨_,rfl,fun u hu=>hE1 x u (by simpa using hu),by simpa using up x⟩
   ·rw [Rep];exact ⟨_,rfl,fun u hu=>hE1 y u (by simpa using hu),by simpa using up y⟩
  refine (CallsE.calls hcg (hq.1 X g0 _ #[.agg (E x).toArray,.agg (E y).toArray] c2 hrx)).mono ?_
  rintro e w' ⟨v,u,g',hh,rfl,⟨rfl,rfl⟩,hc3,hu,hs3⟩
  rw [Rep] at hu
  rw [hu.1]
  exact ⟨rfl,world_grown hs3.os hs3.say hs3.output hs3.size fun b hb=>(hs3.old b hb fun k s _ hk=>by cases hk).1⟩
 have hSWO:SWO (ltOf cf):=by
  refine ⟨fun x=>?_,fun x y z a b=>?_,fun x y z a b=>?_⟩
  ·unfold ltOf;simpa using hirr _ (hVm x)
  ·unfold ltOf at a b ⊢;simp only [decide_eq_true_eq] at a b ⊢;exact htr _ (hVm x) _ (hVm y) _ (hVm z) a b
  ·unfold ltOf at a b ⊢;simp only [decide_eq_false_iff_not] at a b ⊢;exact hnt _ (hVm x) _ (hVm y) _ (hVm z) a b
 have hu:us=#[.slice (some ⟨p.block,p.off+0,none⟩) d.size cap,.func (.func g) #[] #[]]:=by
  rw [← Array.toList_inj,hds];simpa using hus
 subst hu
 refine (hs (Fin n) hI E cf p.block (p.off+0) cap d w hEk hE1 hSWO hcmpL hH hlt (by rw [hds];omega)).mono ?_
 rintro e w' ⟨rfl,d',m,os,hperm,hsort,rfl⟩
 obtain ⟨hp1,hp2,hp3⟩:=hperm
 rw [hds] at hp1
 obtain ⟨c1,s1⟩:=turned d' m os hp1
 refine ⟨.tup [],.tuple #[],g0,_,rfl,⟨rfl,d'.toList.map V,rfl,?_,?_⟩,c1,by rw [Rep];exact ⟨#[],rfl,by simp [RepVs]⟩,s1⟩
 ·have e1:d'.extract 0 d.size=d':=by
   have e0:d.size=d'.size:=by omega
   rw [e0];simp
  have e2:d.extract 0 d.size=d:=by simp
  rw [e1,e2] at hp3
  have e3:d.toList.map V=xs:=by
   refine List.ext_getElem? fun i=>?_
   by_cases hi:i<n
   ·rw [List.getElem?_map,Array.getElem?_toList,Array.getElem?_eq_getElem (by omega)]
    simp [d,V,hi]
   ·rw [List.getElem?_eq_none (by simp [hds];omega),List.getElem?_eq_none (by omega)]
  rw [← e3]
  exact hp3.map V
 ·rw [List.pairwise_map,List.pairwise_iff_getElem]
  intro i j hi hj hij
  have hi':i<d'.size:=by simpa using hi
  have hj':j<d'.size:=by simpa using hj
  have:=hsort i j (Nat.zero_le _) hij (by rw [hds,← hp1];exact hj')
  unfold ltOf at this
  simp only [decide_eq_false_iff_not] at this
  rw [getElem!_pos d' i hi',getElem!_pos d' j hj'] at this
  simpa using this
end
end Go.Abs
/-
 The abstract layer,part Z3: the sort's law,out of the library's contract.
-/
namespace Go.Abs
open Go Go.Sort Go.Proofs Go.Shelf
theorem sortLaw {P:Program} {ρ:Ren} (L:SlLaysF0.n6 P ρ) (k g:Nat) (aE:∀ w,(isAgg (ρ.t 24)).run P w=.ok true w) (zE:∀ w,(Go.sizeOf (ρ.t 24)).run P w=.ok k w)
  (eg:∀ args w,(callFunc g args).run P w=.ok (.enter g args) w):SortLaw P (ρ.f 6) g k:=fun _ _ enc cf blk off cap d w hk h1 hO hcmp hH hb hs=>
 AnyQ.slices_SortFunc L k aE zE enc hk h1 cf hO g #[] blk off cap d w eg hcmp hH hb hs
end Go.Abs
/-
 The abstract layer,part Z4: the library's sort of ints,by its contract.
-/
namespace Go.Abs
open Go Go.Sort
variable {P:Program} {X:Nat→Prop} {g0:Gh} {h:Heap} {w:World}
end Go.Abs
/-
 The bridge,from the statements' readings to the abstract layer: what is read as plain data is there,and a call that answers true and leaves the old memory alone keeps the statement.
-/
namespace Go.Proofs.YtddhcllidlclmaaGreat.Br
open Go Go.Abs Go.ChangeShapes Go.WideShapes Go.RowKit
inductive Sh (P:Program) (B:Nat):TypeId→List AV→Prop
 | bool {t:TypeId} {b:Bool}:P.underlying t=some .bool→Sh P B t [.bool b]
 | int {t:TypeId} {k:IntKind} {n:Int}:P.underlying t=some (.int k)→(Lit.int k n).wf=true→Sh P B t [.int k n]
 | str {t:TypeId} {s:List UInt8}:P.underlying t=some .string→s.length≤B→Sh P B t [.str s]
 | slice {t e:TypeId} {ys:List (List AV)}:P.underlying t=some (.slice e)→ys.length≤B→(∀ y∈ys,Sh P B e y)→Sh P B t [.sl (P.cellsOf e) none ys]
 | struct {t:TypeId} {fs:Array Field} {parts:List (List AV)}:P.underlying t=some (.struct fs)→parts.length=fs.toList.length →
    (∀ (i:Nat) f p,fs.toList[i]?=some f→parts[i]?=some p→Sh P B f.type p)→Sh P B t parts.flatten
 | array {t e:TypeId} {n:Nat} {parts:List (List AV)}:P.underlying t=some (.array n e)→parts.length=n→(∀ p∈parts,Sh P B e p)→Sh P B t parts.flatten
def flat (P:Program):Nat→TypeId→Bool
 | 0,_=>false
 | n+1,t=>match P.underlying t with
   | some .bool=>true
   | some (.int _)=>true
   | some .string=>true
   | some (.slice e)=>flat P n e&&Nat.ble 1 (P.cellsOf e)
   | some (.struct fs)=>fs.toList.all fun f=>flat P n f.type
   | some (.array _ e)=>flat P n e
   | _=>false
def c0 (W:World):Cx:=⟨⟨fun _=>none,fun _=>none⟩,live (fun _=>False) [],W⟩
theorem fr0 (W:World) (b o:Nat):(c0 W).fr b o:=by intro k s h;cases h
section
variable {H:Type} {enc:TypeId × Value→H} {P:Program} {W:World}
theorem mapM_nth {α β:Type} {f:α→Option β}:∀ {l:List α} {r:List β},l.mapM f=some r→r.length=l.length∧∀ (i:Nat) a,l[i]?=some a→∃ b,f a=some b∧r[i]?=some b:=by
 intro l
 induction l with
 | nil=>intro r h;simp at h;subst h;exact ⟨rfl,fun i a h=>by cases h⟩
 | cons x l ih=>
   intro r h
   simp only [List.mapM_cons,Option.bind_eq_bind,Option.bind_eq_some_iff,Option.pure_def] at h
   obtain ⟨b,hb,r',hr',h⟩:=h
   cases h
   obtain ⟨h1,h2⟩:=ih hr'
   refine ⟨by simp [h1],fun i a ha=>?_⟩
   cases i with
   | zero=>cases ha;exact ⟨b,hb,rfl⟩
   | succ i=>exact h2 i a (by simpa using ha)
theorem bulk_get (l:List (DataW H)) (d:DataW H) (h:d∈l):Rows.uptoBulk d≤Rows.uptoBulkAll l:=by
 induction l with
 | nil=>cases h
 | cons x r ih=>
   simp only [Rows.uptoBulkAll]
   cases List.mem_cons.1 h with
   | inl e=>subst e;omega
   | inr e=>have:=ih e;omega
theorem bulk_pos (d:DataW H):1≤Rows.uptoBulk d:=by
 cases d with
 | lit l=>cases l<;>simp [Rows.uptoBulk]
 | _=>simp [Rows.uptoBulk]
theorem bulk_len (l:List (DataW H)):l.length≤Rows.uptoBulkAll l:=by
 induction l with
 | nil=>simp [Rows.uptoBulkAll]
 | cons x r ih=>have:=bulk_pos x;simp only [Rows.uptoBulkAll,List.length_cons];omega
theorem add_block (a:Addr) (n:Nat):(a.add n).block=a.block:=by unfold Addr.add;split<;>rfl
theorem add_off (a:Addr) (n:Nat):(a.add n).off=a.off+n:=by
 unfold Addr.add
 split
 ·rename_i h;subst h;rfl
 ·rfl
theorem cell_add {a:Addr} {n:Nat} {u:Value} (h:W.cell? (a.add n)=some u):W.cell? ⟨a.block,a.off+n,none⟩=some u:=by
 unfold World.cell? at h ⊢
 rw [add_block,add_off] at h
 split at h
 ·rename_i hb
  simp only [hb]
  split at h
  ·cases h
  ·simpa using h
 ·cases h
theorem cells_repCs {a:Addr} {n:Nat} {us:List Value} {xs:List AV} (h:W.cells? 0 a n=some us) (hr:RepVs (c0 W) xs us) (h1:∀ u∈us,u.oneCell'=true) :
  us.length=n∧(0<n→a.spot=none)∧RepCs (c0 W) xs a.block a.off:=by
 unfold World.cells? at h
 rw [if_pos (Nat.zero_le _)] at h
 obtain ⟨hl,hg⟩:=mapM_nth h
 simp at hl
 refine ⟨hl,fun hn=>?_,?_⟩
 ·obtain ⟨u,hu,_⟩:=hg 0 0 (by simp [hn])
  unfold World.cell? at hu
  split at hu
  ·split at hu
   ·cases hu
   ·rename_i hs
    simpa [Addr.add] using hs
  ·cases hu
 ·have key:∀ (xs:List AV) (us:List Value) (o:Nat),RepVs (c0 W) xs us→(∀ u∈us,u.oneCell'=true)→(∀ (i:Nat) u,us[i]?=some u→W.cell? ⟨a.block,a.off+(o+i),none⟩=some u)→RepCs (c0 W) xs a.block (a.off+o):=by
   intro xs
   induction xs with
   | nil=>intro us o _ _ _;simp [RepCs]
   | cons x xs ih=>
     intro us o hr h1 hc
     simp only [RepVs] at hr
     obtain ⟨u,r,rfl,hu,hr⟩:=hr
     simp only [RepCs]
     refine ⟨⟨u,hc 0 u rfl,h1 u (by simp),fr0 W _ _,hu⟩,?_⟩
     have:=ih r (o+1) hr (fun u hu=>h1 u (by simp [hu])) (fun i u hi=>by
      have:=hc (i+1) u (by simpa using hi)
      rwa [show o+(i+1)=o+1+i from by omega] at this)
     rwa [show a.off+o+1=a.off+(o+1) from rfl]
  have:=key xs us 0 hr h1 (fun i u hi=>by
   have hlt:=(List.getElem?_eq_some_iff.1 hi).1
   obtain ⟨u',hu',hi'⟩:=hg i i (List.getElem?_range (by omega))
   rw [hi] at hi'
   cases hi'
   rw [show a.off+(0+i)=a.off+i from by omega]
   exact cell_add hu')
  simpa using this
theorem wf_has {k:IntKind} {n:Int} (h:(Lit.int k n).wf=true):k.has n:=by
 simp only [Lit.wf,Bool.and_eq_true,decide_eq_true_eq] at h
 simpa [IntKind.has] using h
theorem cut_row (K:Kids P (·<P.types.size)) {t:TypeId} {fs:Array Field} (ht:t<P.types.size) (hu:P.underlying t=some (.struct fs)) {cs:List Value} (hl:cs.length=P.cellsOf t) :
  (fs.toList.map fun f=>(cs.drop f.offset).take (P.cellsOf f.type)).flatten=cs:=by
 obtain ⟨_,h2,h3⟩:=K.struct ht hu
 have key:∀ (l:List Field) (o:Nat),(∀ (j:Nat) f,l[j]?=some f→f.offset=o+((l.take j).map fun f=>P.cellsOf f.type).sum)→(l.map fun f:Field=>(cs.drop f.offset).take (P.cellsOf f.type)).flatten=(cs.drop o).take ((l.map fun f=>P.cellsOf f.type).sum):=by
  intro l
  induction l with
  | nil=>intro o _;simp
  | cons f l ih=>
    intro o h
    have h0:=h 0 f rfl
    simp at h0
    simp only [List.map_cons,List.flatten_cons,List.sum_cons]
    rw [ih (o+P.cellsOf f.type) (fun j g hj=>by
     have:=h (j+1) g (by simpa using hj)
     simp only [List.take_succ_cons,List.map_cons,List.sum_cons] at this
     omega),h0,List.take_add,List.drop_drop]
 rw [key fs.toList 0 (fun j f hj=>by simpa using h3 j f hj),← h2,← hl]
 simp
theorem rep_of_trod (K:Kids P (·<P.types.size)) {B:Nat} (hB:B≤LMAX):∀ (m n:Nat) (t:TypeId) (cs:List Value) (x:DataW H × List MemPlace),flat P m t=true→t<P.types.size →
  DataW.trod enc P W 0 (fun _=>true) true n t cs=some x→Rows.uptoBulk x.1≤B→∃ xs,RepVs (c0 W) xs cs∧Sh P B t xs∧∀ u∈cs,u.oneCell'=true
 | 0,n,t,cs,x,hf,_,_,_=>by cases hf
 | m+1,n,t,cs,x,hf,hlt,h,hb=>by
   unfold flat at hf
   split at hf
   ·rename_i hu
    obtain ⟨b,rfl,rfl⟩:=DataW.trod_bool hu h
    exact ⟨[.bool b],by simp [RepVs,Rep],.bool hu,by simp [Value.oneCell']⟩
   ·rename_i k hu
    obtain ⟨n,rfl,rfl,hw⟩:=DataW.trod_int hu h
    exact ⟨[.int k n],by simp [RepVs,Rep,wf_has hw],.int hu hw,by simp [Value.oneCell']⟩
   ·rename_i hu
    obtain ⟨s,rfl,rfl,hm⟩:=DataW.trod_string hu h
    have hb':s.data.toList.length≤B:=by simp [Rows.uptoBulk] at hb;simp;omega
    exact ⟨[.str s.data.toList],by simp only [RepVs,Rep];exact ⟨_,_,rfl,⟨s,rfl,rfl,by omega⟩,rfl⟩,.str hu hb',by simp [Value.oneCell']⟩
   ·rename_i e hu
    simp only [Bool.and_eq_true] at hf
    have hk:0<P.cellsOf e:=Nat.le_of_ble_eq_true hf.2
    have he:e<P.types.size:=K.slice hlt hu
    rcases DataW.trod_slice hu h with ⟨rfl,rfl⟩|⟨a,len,cap,elems,rest,n',rfl,rfl,rfl,_,hlc,hcm,hel,hge,_,_⟩
    ·refine ⟨[.sl (P.cellsOf e) none []],?_,.slice hu (Nat.zero_le _) (by simp),by simp [Value.oneCell']⟩
     simp only [RepVs]
     exact ⟨_,_,rfl,VLe.nil hk _ _ (by simp [Rep]),rfl⟩
    ·have hbulk:elems.length≤B∧∀ y∈elems,Rows.uptoBulk y.1≤B:=by
      simp only [Rows.uptoBulk] at hb
      have h1:=bulk_len (elems.map (·.1))
      simp at h1
      refine ⟨by omega,fun y hy=>?_⟩
      have:=bulk_get (elems.map (·.1)) y.1 (List.mem_map.2 ⟨y,hy,rfl⟩)
      omega
     have each:∀ i,i<len→∃ (xs:List AV) (us:List Value),W.cells? 0 (a.add (i*P.cellsOf e)) (P.cellsOf e)=some us∧RepVs (c0 W) xs us∧Sh P B e xs∧∀ u∈us,u.oneCell'=true:=by
      intro i hi
      have hx:=hge i hi
      have hlt':i<elems.length:=by omega
      rw [List.getElem?_eq_getElem hlt'] at hx
      simp only [Option.bind_eq_some_iff] at hx
      obtain ⟨us,hus,htr⟩:=hx
      obtain ⟨xs,h1,h2,h3⟩:=rep_of_trod K hB m n' e us _ hf.1 he htr (hbulk.2 _ (List.getElem_mem hlt'))
      exact ⟨xs,us,hus,h1,h2,h3⟩
     have build:∀ j i,i+j=len→∃ ys:List (List AV),ys.length=j∧(∀ y∈ys,Sh P B e y)∧RepEs (c0 W) (P.cellsOf e) ys a.block (a.off+i*P.cellsOf e):=by
      intro j
      induction j with
      | zero=>intro i _;exact ⟨[],rfl,by simp,by simp [RepEs]⟩
      | succ j ih=>
        intro i hij
        obtain ⟨xs,us,hus,h1,h2,h3⟩:=each i (by omega)
        obtain ⟨hn,hsp,hr⟩:=cells_repCs hus h1 h3
        obtain ⟨ys,hy1,hy2,hy3⟩:=ih (i+1) (by omega)
        refine ⟨xs::ys,by simp [hy1],by intro y hy;cases List.mem_cons.1 hy with|inl e=>subst e;exact h2|inr e=>exact hy2 y e,?_⟩
        simp only [RepEs]
        refine ⟨⟨by rw [← h1.length];exact hn,by rw [add_block,add_off] at hr;exact hr⟩,?_⟩
        rwa [show a.off+i*P.cellsOf e+P.cellsOf e=a.off+(i+1)*P.cellsOf e from by rw [Nat.succ_mul];omega]
     obtain ⟨ys,hy1,hy2,hy3⟩:=build len 0 (by omega)
     refine ⟨[.sl (P.cellsOf e) none ys],?_,.slice hu (by omega) hy2,by simp [Value.oneCell']⟩
     simp only [RepVs,Rep]
     refine ⟨_,_,rfl,⟨some a,cap,by rw [hy1],by omega,by omega,hk,by simp,?_,?_,by simp⟩,rfl⟩
     ·rintro a' ⟨⟩ hne
      have:0<len:=by
       cases ys with
       | nil=>exact absurd rfl hne
       | cons _ _=>simp at hy1;omega
      obtain ⟨xs,us,hus,h1,h2,h3⟩:=each 0 this
      have:=(cells_repCs hus h1 h3).2.1 hk
      simpa [Addr.add] using this
     ·rintro a' ⟨⟩
      simpa using hy3
   ·rename_i fs hu
    obtain ⟨xs,n',rfl,rfl,hl,hlen,hg⟩:=DataW.trod_struct hu h
    have hbulk:∀ y∈xs,Rows.uptoBulk y.1≤B:=by
     simp only [Rows.uptoBulk] at hb
     intro y hy
     have:=bulk_get (xs.map (·.1)) y.1 (List.mem_map.2 ⟨y,hy,rfl⟩)
     omega
    obtain ⟨k1,k2,k3⟩:=K.struct hlt hu
    have each:∀ (i:Nat) (f:Field),fs.toList[i]?=some f→∃ p,RepVs (c0 W) p ((cs.drop f.offset).take (P.cellsOf f.type))∧Sh P B f.type p∧∀ u∈(cs.drop f.offset).take (P.cellsOf f.type),u.oneCell'=true:=by
     intro i f hif
     have hlti:i<xs.length:=by
      have:=(List.getElem?_eq_some_iff.1 hif).1
      simp at this;omega
     have hx:=hg i f (by simpa using hif)
     rw [List.getElem?_eq_getElem hlti] at hx
     exact rep_of_trod K hB m n' f.type _ _ (List.all_eq_true.1 hf f (List.mem_of_getElem? hif)) (k1 f (List.mem_of_getElem? hif)) hx (hbulk _ (List.getElem_mem hlti))
    have build:∀ (l:List Field) ,(∀ f∈l,∃ p,RepVs (c0 W) p ((cs.drop f.offset).take (P.cellsOf f.type))∧Sh P B f.type p∧∀ u∈(cs.drop f.offset).take (P.cellsOf f.type),u.oneCell'=true) →
      ∃ parts:List (List AV),parts.length=l.length∧(∀ (i:Nat) f p,l[i]?=some f→parts[i]?=some p→Sh P B f.type p)∧RepVs (c0 W) parts.flatten (l.map fun f:Field=>(cs.drop f.offset).take (P.cellsOf f.type)).flatten ∧
       ∀ u∈(l.map fun f:Field=>(cs.drop f.offset).take (P.cellsOf f.type)).flatten,u.oneCell'=true:=by
     intro l
     induction l with
     | nil=>intro _;exact ⟨[],rfl,by simp,by simp [RepVs],by simp⟩
     | cons f l ih=>
       intro h
       obtain ⟨p,h1,h2,h3⟩:=h f (by simp)
       obtain ⟨parts,g1,g2,g3,g4⟩:=ih (fun f hf=>h f (by simp [hf]))
       refine ⟨p::parts,by simp [g1],?_,?_,?_⟩
       ·intro i f' p' hi hp
        cases i with
        | zero=>cases hi;cases hp;exact h2
        | succ i=>exact g2 i f' p' (by simpa using hi) (by simpa using hp)
       ·simp only [List.map_cons,List.flatten_cons]
        exact RepVs.append h1 g3
       ·intro u hu
        simp only [List.map_cons,List.flatten_cons,List.mem_append] at hu
        exact hu.elim (h3 u) (g4 u)
    obtain ⟨parts,g1,g2,g3,g4⟩:=build fs.toList (fun f hf=>by
     obtain ⟨i,hi⟩:=List.mem_iff_getElem?.1 hf
     exact each i f hi)
    rw [cut_row K hlt hu hl] at g3 g4
    exact ⟨parts.flatten,g3,.struct hu g1 g2,g4⟩
   ·rename_i N e hu
    obtain ⟨xs,n',rfl,rfl,hl,hlen,hg⟩:=DataW.trod_array hu h
    obtain ⟨k1,k2⟩:=K.array hlt hu
    have hbulk:∀ y∈xs,Rows.uptoBulk y.1≤B:=by
     simp only [Rows.uptoBulk] at hb
     intro y hy
     have:=bulk_get (xs.map (·.1)) y.1 (List.mem_map.2 ⟨y,hy,rfl⟩)
     omega
    have each:∀ i,i<N→∃ p,RepVs (c0 W) p ((cs.drop (i*P.cellsOf e)).take (P.cellsOf e))∧Sh P B e p∧∀ u∈(cs.drop (i*P.cellsOf e)).take (P.cellsOf e),u.oneCell'=true:=by
     intro i hi
     have hlti:i<xs.length:=by omega
     have hx:=hg i hi
     rw [List.getElem?_eq_getElem hlti] at hx
     exact rep_of_trod K hB m n' e _ _ hf k1 hx (hbulk _ (List.getElem_mem hlti))
    have build:∀ j i,i+j=N→∃ parts:List (List AV),parts.length=j∧(∀ p∈parts,Sh P B e p)∧RepVs (c0 W) parts.flatten (cs.drop (i*P.cellsOf e))∧∀ u∈cs.drop (i*P.cellsOf e),u.oneCell'=true:=by
     intro j
     induction j with
     | zero=>
       intro i hi
       have h0:cs.drop (i*P.cellsOf e)=[]:=List.drop_eq_nil_of_le (by rw [hl,k2,show i=N by omega];exact Nat.le_refl _)
       rw [h0]
       exact ⟨[],rfl,by simp,by simp [RepVs],by simp⟩
     | succ j ih=>
       intro i hi
       obtain ⟨p,h1,h2,h3⟩:=each i (by omega)
       obtain ⟨parts,g1,g2,g3,g4⟩:=ih (i+1) (by omega)
       have hcut:cs.drop (i*P.cellsOf e)=(cs.drop (i*P.cellsOf e)).take (P.cellsOf e)++cs.drop ((i+1)*P.cellsOf e):=by
        rw [Nat.succ_mul,← List.drop_drop,List.take_append_drop]
       rw [hcut]
       refine ⟨p::parts,by simp [g1],?_,?_,?_⟩
       ·intro y hy
        rcases List.mem_cons.1 hy with rfl|hy
        ·exact h2
        ·exact g2 y hy
       ·simp only [List.flatten_cons]
        exact RepVs.append h1 g3
       ·intro u hu
        exact (List.mem_append.1 hu).elim (h3 u) (g4 u)
    obtain ⟨parts,g1,g2,g3,g4⟩:=build N 0 (by omega)
    rw [Nat.zero_mul,List.drop_zero] at g3 g4
    exact ⟨parts.flatten,g3,.array hu g1 g2,g4⟩
   ·cases hf
def ArgSh (P:Program) (B:Nat) (t:TypeId) (x:AV):Prop:=∃ xs,Sh P B t xs∧match P.underlying t with
 | some (.struct _)=>x=.agg xs
 | some (.array _ _)=>x=.agg xs
 | _=>xs=[x]
def ArgShs (P:Program) (B:Nat):List TypeId→List AV→Prop
 | [],[]=>True
 | t::ts,x::xs=>ArgSh P B t x∧ArgShs P B ts xs
 | _,_=>False
theorem rep_arg (K:Kids P (·<P.types.size)) {B:Nat} (hB:B≤LMAX) {m:Nat} {t:TypeId} {v:Value} {d:DataW H} {ps:List MemPlace} {base:Nat} (hf:flat P m t=true) (hlt:t<P.types.size)
  (hok:Value.okWide P W .any base t v) (h:DataW.Trod enc P W 0 (fun _=>true) true t v d ps) (hb:Rows.uptoBulk d≤B):∃ x,Rep (c0 W) x v∧ArgSh P B t x:=by
 obtain ⟨n,h⟩:=h
 obtain ⟨xs,h1,h2,h3⟩:=rep_of_trod K hB m n t _ _ hf hlt h hb
 have one:∀ x,xs=[x]→(∀ cs,v≠.agg cs)→(∀ fs,P.underlying t≠some (.struct fs))∧(∀ n e,P.underlying t≠some (.array n e))→∃ x,Rep (c0 W) x v∧ArgSh P B t x:=by
  rintro x rfl hne hns
  have hv:v.cells.toList=[v]:=by cases v<;>first|rfl|exact absurd rfl (hne _)
  rw [hv] at h1
  simp only [RepVs] at h1
  obtain ⟨u,r,hu,hx,rfl⟩:=h1
  cases hu
  refine ⟨x,hx,[x],h2,?_⟩
  split
  ·rename_i fs hfs;exact absurd hfs (hns.1 fs)
  ·rename_i n e hfs;exact absurd hfs (hns.2 n e)
  ·rfl
 unfold Value.okWide at hok
 cases h2 with
 | bool hu=>
   rw [hu] at hok
   refine one _ rfl (fun cs hv=>?_) (by rw [hu];simp)
   subst hv
   simp [Cell.okWide,hu,Cell.ok] at hok
 | int hu hw=>
   rw [hu] at hok
   refine one _ rfl (fun cs hv=>?_) (by rw [hu];simp)
   subst hv
   simp [Cell.okWide,hu,Cell.ok] at hok
 | str hu hl=>
   rw [hu] at hok
   refine one _ rfl (fun cs hv=>?_) (by rw [hu];simp)
   subst hv
   simp [Cell.okWide,hu,Cell.ok] at hok
 | slice hu hl hy=>
   rw [hu] at hok
   refine one _ rfl (fun cs hv=>?_) (by rw [hu];simp)
   subst hv
   simp [Cell.okWide,hu,Cell.ok] at hok
 | @struct _ fs parts hu hl hp=>
   rw [hu] at hok
   obtain ⟨cs,rfl,hsz,_⟩:=hok
   refine ⟨.agg parts.flatten,?_,parts.flatten,.struct hu hl hp,by rw [hu]⟩
   simp only [Rep]
   exact ⟨cs,rfl,fun u hu=>h3 u (by simpa [Value.cells] using hu),h1⟩
 | @array _ e n parts hu hl hp=>
   rw [hu] at hok
   obtain ⟨cs,rfl,hsz,_⟩:=hok
   refine ⟨.agg parts.flatten,?_,parts.flatten,.array hu hl hp,by rw [hu]⟩
   simp only [Rep]
   exact ⟨cs,rfl,fun u hu=>h3 u (by simpa [Value.cells] using hu),h1⟩
theorem rep_args (K:Kids P (·<P.types.size)) {B:Nat} (hB:B≤LMAX) {m:Nat} {base:Nat}:∀ {ts:List TypeId} {vs:List Value} {ds:List (DataW H)} {ps:List MemPlace},(∀ t∈ts,flat P m t=true∧t<P.types.size) →
  (∀ (j:Nat) t v,ts[j]?=some t→vs[j]?=some v→Value.okWide P W .any base t v)→DataW.TrodAll enc P W 0 (fun _=>true) true ts vs ds ps→Rows.uptoBulkAll ds≤B →
  ∃ xs,RepVs (c0 W) xs vs∧ArgShs P B ts xs
 | [],vs,ds,ps,_,_,h,_=>by
   obtain ⟨rfl,rfl,rfl⟩:=trodAll_nil h
   exact ⟨[],by simp [RepVs],trivial⟩
 | t::ts,vs,ds,ps,hf,hok,h,hb=>by
   obtain ⟨v,vs1,d,ds1,a,b,rfl,rfl,rfl,h1,h2⟩:=trodAll_cons h
   simp only [Rows.uptoBulkAll] at hb
   obtain ⟨x,hx,hs⟩:=rep_arg K hB (hf t (by simp)).1 (hf t (by simp)).2 (hok 0 t v rfl rfl) h1 (by omega)
   obtain ⟨xs,hxs,hss⟩:=rep_args K hB (fun t ht=>hf t (by simp [ht])) (fun j t v h1 h2=>hok (j+1) t v (by simpa using h1) (by simpa using h2)) h2 (by omega)
   exact ⟨x::xs,by simp only [RepVs];exact ⟨v,vs1,rfl,hx,hxs⟩,hs,hss⟩
theorem stays_all {W':World} {sp:Nat→Bool} (K:Kids P (·<P.types.size)) (hz:∀ {t e:TypeId},t<P.types.size→P.underlying t=some (.slice e)→0<P.cellsOf e) :
  ∀ {ts:List TypeId} {vs:List Value} {ds:List (DataW H)} {ps:List MemPlace},(∀ t∈ts,t<P.types.size)→DataW.TrodAll enc P W 0 (fun _=>true) true ts vs ds ps→(∀ p∈ps,W.sameAt W' p)→(∀ p∈ps,sp p.block=true) →
   DataW.TrodAll enc P W' 0 sp true ts vs ds ps
 | [],vs,ds,ps,_,h,_,_=>by
   obtain ⟨rfl,rfl,rfl⟩:=trodAll_nil h
   exact trodAll_mk0
 | t::ts,vs,ds,ps,hT,h,hs,hp=>by
   obtain ⟨v,vs1,d,ds1,a,b,rfl,rfl,rfl,⟨n,h1⟩,h2⟩:=trodAll_cons h
   exact ⟨a,b,⟨n,DataW.trod_stays K hz (fun hh=>by cases hh) (hT t (by simp)) h1 (fun p hp=>hs p (by simp [hp])) (fun p hq=>hp p (by simp [hq]))⟩,
    stays_all K hz (fun t ht=>hT t (by simp [ht])) h2 (fun p hp=>hs p (by simp [hp])) (fun p hq=>hp p (by simp [hq])),rfl⟩
theorem trod_len:∀ {ts:List TypeId} {vs:List Value} {ds:List (DataW H)} {ps:List MemPlace},DataW.TrodAll enc P W 0 (fun _=>true) true ts vs ds ps→ds.length=ts.length
 | [],_,_,_,h=>by
   obtain ⟨rfl,rfl,_⟩:=trodAll_nil h
   rfl
 | t::ts,_,_,_,h=>by
   obtain ⟨v,vs1,d,ds1,a,b,rfl,rfl,rfl,h1,h2⟩:=trodAll_cons h
   simp [trod_len h2]
theorem cw0 (W:World):CW (fun _=>False) ⟨fun _=>none,fun _=>none⟩ [] W:=by
 refine ⟨by simp,⟨0,?_⟩,by simp [keys],by simp [keys],by simp⟩
 rintro k (h|h|h|⟨b,s,h⟩)
 ·exact h.elim
 ·simp [keys] at h
 ·exact absurd rfl h
 ·cases h
theorem bridge {f:FuncId} {fn:Func} {s:ChangeSpec} {m:Nat} {tb:TypeId} (K:Kids P (·<P.types.size)) (hz:∀ {t e:TypeId},t<P.types.size→P.underlying t=some (.slice e)→0<P.cellsOf e)
  (hvars:s.vars=[]) (hfn:∀ ds:List (DataW H),ds.length=fn.params.toList.length→s.fn H ds={ results:=[.lit (.bool true)],args:=ds })
  (hres:fn.resultTypes=#[tb]) (hbool:P.underlying tb=some .bool) (hflat:∀ t∈fn.params.toList,flat P m t=true∧t<P.types.size)
  (hcal:Callable P f) (law:∀ xs,ArgShs P 1048576 fn.params.toList xs→QCall P f xs [] (.bool true))
  {base:Nat} {args:Array Value} {ds gs:List (DataW H)} {before:List MemPlace}
  (hval:∀ (j:Nat) t v,fn.params[j]?=some t→args[j]?=some v→Value.okWide P W .any base t v)
  (hW:DataW.Whole enc P fn.params.toList s.vars false W args.toList ds gs before) (hk:Rows.uptoSmall H (ds++gs)=true) :
  Calls P f args W fun e W'=>∃ v,e=.returned v∧s.post enc P fn false true false false W args v W':=by
 have hlt:=hW.lt
 have hW':=hW
 rw [hvars] at hW
 obtain ⟨p,q,hA,hV,hpq,hfz,hnd⟩:=hW
 obtain ⟨rfl,rfl⟩:gs=[]∧q=[]:=by
  cases gs with
  | nil=>simp only [DataW.TrodVars] at hV;exact ⟨rfl,hV⟩
  | cons _ _=>simp [DataW.TrodVars] at hV
 simp only [List.append_nil] at hpq hk
 subst hpq
 have hbulk:Rows.uptoBulkAll ds≤1048576:=of_decide_eq_true hk
 obtain ⟨xs,hrep,hsh⟩:=rep_args K (B:=1048576) (by unfold LMAX;omega) hflat (fun j t v h1 h2=>hval j t v (by simpa using h1) (by simpa using h2)) hA hbulk
 have hlen:ds.length=fn.params.toList.length:=(trod_len hA)
 refine (CallsE.calls hcal ((law xs hsh).calls (fun _=>False) ⟨fun _=>none,fun _=>none⟩ W args (cw0 W) hrep)).mono ?_
 rintro e W' ⟨v,u,g',h',rfl,⟨rfl,rfl⟩,hc,hu,hst⟩
 simp only [Rep] at hu
 subst hu
 have hold:∀ b,b<W.heap.size→W'.heap[b]?=W.heap[b]?:=fun b hb=>(hst.old b hb (fun k s h=>by cases h)).1
 have hsame:∀ p∈before,W.sameAt W' p:=by
  intro p hp
  have:=hlt p hp
  cases p with
  | cell b off=>simp only [World.sameAt,World.cell?];rw [hold b this]
  | map b=>exact hold b this
 refine ⟨_,rfl,ds,[],before,[],before,[],hW',?_,?_,?_,?_,fun h=>by cases h⟩
 ·rw [List.append_nil,hfn ds hlen,hres]
  exact trodAll_mk1 (shut_bool hbool _)
 ·rw [List.append_nil,hfn ds hlen]
  exact stays_all K hz (fun t ht=>(hflat t ht).2) hA hsame (fun p hp=>by simpa using hlt p hp)
 ·rw [hvars,List.append_nil,hfn ds hlen]
  simp [DataW.TrodVars]
 ·refine ⟨hst.os,hst.output,fun i hi=>?_⟩
  rw [hold i hi]
  cases hh:W.heap[i]? with
  | none=>simp
  | some o=>cases o<;>simp
end
end Go.Proofs.YtddhcllidlclmaaGreat.Br
set_option maxRecDepth 100000
set_option maxHeartbeats 2000000
namespace Go.Abs.Wall
open Go Go.Abs Go.Proofs
theorem mixed:Tryz.prog.follows .mixedOrders=true:=by decide
theorem within (n low high:Int):QCall Tryz.prog 32 [.int .i64 n,.int .i64 low,.int .i64 high] [] (.bool (decide (low≤n)&&decide (n≤high))):=by
 refine acalls (fn:=Tryz.f32) (code:=(Tryz.f32.body.getD .skip)) (c:=⟨[0,1,2,6],[],[],[],[],[]⟩) rfl rfl rfl mixed (by simp [Tryz.f32]) fun X=>?_
 conv=>whnf
 exact ⟨rfl,rfl⟩
theorem lwithin (n low high:Int):QCall Tryz.prog 116 [.int .i64 n,.int .i64 low,.int .i64 high] [] (.bool (decide (low≤n)&&decide (n≤high))):=by
 refine acalls (fn:=Tryz.f116) (code:=(Tryz.f116.body.getD .skip)) (c:=⟨[0,1,2,6],[],[],[],[],[]⟩) rfl rfl rfl mixed (by simp [Tryz.f116]) fun X=>?_
 conv=>whnf
 exact ⟨rfl,rfl⟩
end Go.Abs.Wall
namespace Go.Abs.Wall
open Go Go.Abs Go.Proofs
theorem map_get {α:Type} {enc:α→List AV} {l:List α} {i:Nat} (h:i<l.length):(l.map enc)[i]?=some (enc l[i]):=by simp [List.getElem?_eq_getElem h]
def big (y:UInt8):Bool:=decide (65≤y.toNat)&&decide (y.toNat≤90)
def small (y:UInt8):Bool:=decide (97≤y.toNat)&&decide (y.toNat≤122)
def digit (y:UInt8):Bool:=decide (48≤y.toNat)&&decide (y.toNat≤57)
def alnum (y:UInt8):Bool:=big y||small y||digit y
def codeOK (s:List UInt8):Bool:=decide (1≤s.length)&&decide (s.length≤8)&&big (s[0]?.getD 0)&&s.all alnum
def c78:Cfg:=⟨[0,2,3,4,22,26,54],[],[],[],[],[]⟩
theorem le_cast (a:Nat) (y:UInt8):decide ((a:Int)≤(y.toNat:Int))=decide (a≤y.toNat):=by rw [decide_eq_decide];omega
theorem le_cast' (a:Nat) (y:UInt8):decide ((y.toNat:Int)≤(a:Int))=decide (y.toNat≤a):=by rw [decide_eq_decide];omega
theorem validCode (s:List UInt8) (hs:s.length≤LMAX):QCall Tryz.prog 78 [.str s] [] (.bool (codeOK s)):=by
 refine acalls (fn:=Tryz.f78) (code:=(Tryz.f78.body.getD .skip)) (c:=c78) rfl rfl rfl mixed (by simp [Tryz.f78]) fun X=>?_
 unfold LMAX at hs
 have h0:¬ (s.length:Int)<1→((0:Int)=((0:Nat):Int)∧s[0]?=some (s[0]?.getD 0)):=by
  intro h
  refine ⟨rfl,?_⟩
  rw [List.getElem?_eq_getElem (show 0<s.length by omega)];rfl
 conv=>whnf
 refine ⟨0,s[0]?.getD 0,fun h1=>?_,?_⟩
 ·have h1:(decide ((s.length:Int)<1)||decide (8<(s.length:Int)))=false:=h1
  simp only [Bool.or_eq_false_iff,decide_eq_false_iff_not] at h1
  exact h0 h1.1
 conv=>whnf
 refine ⟨0,s[0]?.getD 0,fun h1=>?_,?_⟩
 ·have h1:(decide ((s.length:Int)<1)||decide (8<(s.length:Int))||decide (((s[0]?.getD 0).toNat:Int)<65))=false:=h1
  simp only [Bool.or_eq_false_iff,decide_eq_false_iff_not] at h1
  exact h0 h1.1.1
 conv=>whnf
 refine ⟨fun hc=>?_,fun hc=>?_⟩
 ·have hc:(decide ((s.length:Int)<1)||decide (8<(s.length:Int))||decide (((s[0]?.getD 0).toNat:Int)<65)||decide (90<((s[0]?.getD 0).toNat:Int)))=true:=hc
  conv=>whnf
  refine ⟨congrArg AV.bool ?_,rfl⟩
  symm
  simp only [Bool.or_eq_true,decide_eq_true_eq] at hc
  unfold codeOK big
  simp only [Bool.and_eq_false_iff,decide_eq_false_iff_not]
  omega
 ·have hc:(decide ((s.length:Int)<1)||decide (8<(s.length:Int))||decide (((s[0]?.getD 0).toNat:Int)<65)||decide (90<((s[0]?.getD 0).toNat:Int)))=false:=hc
  simp only [Bool.or_eq_false_iff,decide_eq_false_iff_not] at hc
  have hpre:(decide (1≤s.length)&&decide (s.length≤8)&&big (s[0]?.getD 0))=true:=by
   unfold big
   simp only [Bool.and_eq_true,decide_eq_true_eq]
   omega
  conv=>whnf
  refine loop_ok (c:=c78) mixed [0,3] [] (fun m r h=>∃ i:Nat,r=[(0,[],.str s),(3,[],.int .i64 i)]∧h=[]∧m=s.length - i∧i≤s.length∧∀ j y,j<i→s[j]?=some y→alnum y=true) ?_ ?_
  ·conv=>whnf
   exact ⟨_,0,rfl,rfl,rfl,by omega,by intro j y hj;omega⟩
  ·rintro m r h ⟨i,rfl,rfl,rfl,hi,hg⟩
   conv=>whnf
   refine ⟨fun hb=>?_,fun hb=>?_⟩
   ·have hb:(i:Int)<(s.length:Int):=of_decide_eq_true hb
    have hlt:i<s.length:=by omega
    have hx:=List.getElem?_eq_getElem hlt
    conv=>whnf
    refine ⟨i,s[i],⟨rfl,hx⟩,?_⟩
    have e:((decide ((65:Int)≤(s[i].toNat:Int))&&decide ((s[i].toNat:Int)≤90))||(decide ((97:Int)≤(s[i].toNat:Int))&&decide ((s[i].toNat:Int)≤122)) ||
      (decide ((48:Int)≤(s[i].toNat:Int))&&decide ((s[i].toNat:Int)≤57)))=alnum s[i]:=by
     unfold alnum big small digit
     rw [← le_cast,← le_cast,← le_cast,← le_cast',← le_cast',← le_cast']
     rfl
    conv=>whnf
    refine ⟨fun hc=>?_,fun hc=>?_⟩
    ·have hc:(!((decide ((65:Int)≤(s[i].toNat:Int))&&decide ((s[i].toNat:Int)≤90))||(decide ((97:Int)≤(s[i].toNat:Int))&&decide ((s[i].toNat:Int)≤122)) ||
      (decide ((48:Int)≤(s[i].toNat:Int))&&decide ((s[i].toNat:Int)≤57))))=true:=hc
     rw [e] at hc
     conv=>whnf
     refine ⟨congrArg AV.bool ?_,rfl⟩
     symm
     unfold codeOK
     rw [Bool.and_eq_false_iff]
     right
     rw [List.all_eq_false]
     exact ⟨s[i],List.getElem_mem hlt,by simpa using hc⟩
    ·have hc:(!((decide ((65:Int)≤(s[i].toNat:Int))&&decide ((s[i].toNat:Int)≤90))||(decide ((97:Int)≤(s[i].toNat:Int))&&decide ((s[i].toNat:Int)≤122)) ||
      (decide ((48:Int)≤(s[i].toNat:Int))&&decide ((s[i].toNat:Int)≤57))))=false:=hc
     rw [e] at hc
     conv=>whnf
     refine ⟨⟨by omega,by omega⟩,?_⟩
     conv=>whnf
     refine ⟨s.length - (i+1),by omega,i+1,rfl,rfl,rfl,by omega,fun j y hj hy=>?_⟩
     rcases Nat.lt_succ_iff_lt_or_eq.1 hj with h|rfl
     ·exact hg j y h hy
     ·rw [hx] at hy;cases hy;simpa using hc
   ·have hb:¬ (i:Int)<(s.length:Int):=of_decide_eq_false hb
    conv=>whnf
    refine ⟨congrArg AV.bool ?_,rfl⟩
    symm
    unfold codeOK
    rw [hpre,Bool.true_and,List.all_eq_true]
    intro y hy
    obtain ⟨j,hj,rfl⟩:=List.getElem_of_mem hy
    exact hg j _ (by omega) (List.getElem?_eq_getElem hj)
end Go.Abs.Wall
namespace Go.Abs.Wall
open Go Go.Abs Go.Proofs
structure Val where
 kind:Int
 text:List UInt8
 fr:Int
 to:Int
def encVal (v:Val):List AV:=[.int .i64 v.kind,.str v.text,.int .i64 v.fr,.int .i64 v.to]
def c145:Cfg:=⟨[0,1,2],[],[2],[],[],[]⟩
theorem of (v:Val):QCall Tryz.prog 145 [.agg (encVal v)] [] (.agg [.int .i64 v.kind,.str v.text]):=by
 refine acalls (fn:=Tryz.f145) (code:=(Tryz.f145.body.getD .skip)) (c:=c145) rfl rfl rfl mixed (by simp [Tryz.f145]) fun X=>?_
 conv=>whnf
 intro b
 conv=>whnf
 refine ⟨_,_,Rem.here _,⟨by simp,rfl⟩,?_⟩
 conv=>whnf
 exact ⟨rfl,rfl⟩
def meetB (a b:Val):Bool:=(decide (a.kind=b.kind)&&(decide (a.text=b.text)&&true))&&decide (a.fr≤b.to)&&decide (b.fr≤a.to)
def c110:Cfg:=⟨[0,1,2,3,4],[],[],[],[(1,[0,1,2,3,4,5,6,7,8,9,10,11,12,13,14,15,16,17,18,19],[])],[]⟩
theorem meet (a b:Val):QCall Tryz.prog 110 [.agg (encVal a),.agg (encVal b)] [] (.bool (meetB a b)):=by
 refine acalls (fn:=Tryz.f110) (code:=(Tryz.f110.body.getD .skip)) (c:=c110) rfl rfl rfl mixed (by simp [Tryz.f110]) fun X=>?_
 conv=>whnf
 refine ⟨rfl,?_⟩
 conv=>whnf
 refine ⟨_,(of a).wide _,?_⟩
 conv=>whnf
 refine ⟨_,(of b).wide _,?_⟩
 conv=>whnf
 refine ⟨by decide +kernel,?_⟩
 conv=>whnf
 exact ⟨rfl,rfl⟩
def c109:Cfg:=⟨[0,1,2,3],[],[],[],[],[]⟩
theorem meetF (v w:Val):QCall Tryz.prog 109 [.agg (encVal w),.iptr (encVal v)] [] (.bool (meetB v w)):=by
 refine acalls (fn:=Tryz.f109) (code:=(Tryz.f109.body.getD .skip)) (c:=c109) rfl rfl rfl mixed (by simp [Tryz.f109]) fun X=>?_
 conv=>whnf
 refine QCall.k0 (meet v w) ?_
 conv=>whnf
 exact ⟨rfl,rfl⟩
def firstI {α:Type} (p:α→Bool) (l:List α):Int:=
 match l.findIdx? p with
 | some i=>(i:Int)
 | none=>-1
theorem firstI_some {α:Type} {p:α→Bool} {l:List α} {i:Nat} (h:i<l.length) (hp:p l[i]=true) (hb:∀ j (hj:j<i),p (l[j]'(by omega))=false):firstI p l=(i:Int):=by
 unfold firstI
 have:l.findIdx? p=some i:=by
  rw [List.findIdx?_eq_some_iff_getElem]
  exact ⟨h,hp,fun j hj=>by simp [hb j hj]⟩
 rw [this]
theorem firstI_none {α:Type} {p:α→Bool} {l:List α} (hb:∀ j (hj:j<l.length),p l[j]=false):firstI p l = -1:=by
 unfold firstI
 have:l.findIdx? p=none:=by
  rw [List.findIdx?_eq_none_iff]
  intro x hx
  obtain ⟨j,hj,rfl⟩:=List.getElem_of_mem hx
  exact hb j hj
 rw [this]
def c144:Cfg:=⟨[0,1,4,5,7,8,9,16],[],[],[],[],[]⟩
theorem indexFuncV (l:List Val) (hl:l.length≤LMAX) (f:FuncId) (caps:List AV) (p:Val→Bool) (hp:∀ w∈l,QCall Tryz.prog f (.agg (encVal w)::caps) [] (.bool (p w))) :
  QCall Tryz.prog 144 [.sl 4 none (l.map encVal),.fn f caps] [] (.int .i64 (firstI p l)):=by
 refine acalls (fn:=Tryz.f144) (code:=(Tryz.f144.body.getD .skip)) (c:=c144) rfl rfl rfl mixed (by simp [Tryz.f144]) fun X=>?_
 unfold LMAX at hl
 conv=>whnf
 refine loop_ok (c:=c144) mixed [0,1,7,8] [] (fun m r h=>∃ i:Nat,r=[(0,[],.sl 4 none (l.map encVal)),(1,[],.fn f caps),(7,[],.int .i64 (l.map encVal).length),(8,[],.int .i64 i)]∧h=[]∧m=l.length - i∧i≤l.length∧∀ j (hj:j<i) (hj':j<l.length),p l[j]=false) ?_ ?_
 ·conv=>whnf
  exact ⟨_,0,rfl,rfl,rfl,by omega,by intro j hj;omega⟩
 ·rintro m r h ⟨i,rfl,rfl,rfl,hi,hg⟩
  conv=>whnf
  refine ⟨fun hb=>?_,fun hb=>?_⟩
  ·have hb:(i:Int)<((l.map encVal).length:Int):=of_decide_eq_true hb
   rw [List.length_map] at hb
   have hlt:i<l.length:=by omega
   conv=>whnf
   refine ⟨i,encVal l[i],⟨rfl,map_get hlt⟩,?_⟩
   conv=>whnf
   refine QCall.k0 (hp l[i] (List.getElem_mem hlt)) ?_
   conv=>whnf
   refine ⟨fun hc=>?_,fun hc=>?_⟩
   ·have hc:p l[i]=true:=hc
    conv=>whnf
    exact ⟨by rw [firstI_some hlt hc (fun j hj=>hg j hj (by omega))],rfl⟩
   ·have hc:p l[i]=false:=hc
    conv=>whnf
    refine ⟨⟨by omega,by omega⟩,?_⟩
    conv=>whnf
    refine ⟨l.length - (i+1),by omega,i+1,rfl,rfl,rfl,by omega,fun j hj hj'=>?_⟩
    rcases Nat.lt_succ_iff_lt_or_eq.1 hj with h|rfl
    ·exact hg j h hj'
    ·exact hc
  ·have hb:¬ (i:Int)<((l.map encVal).length:Int):=of_decide_eq_false hb
   rw [List.length_map] at hb
   conv=>whnf
   exact ⟨by rw [firstI_none (fun j hj=>hg j (by omega) hj)],rfl⟩
theorem firstI_any {α:Type} (p:α→Bool) (l:List α):decide (0≤firstI p l)=l.any p:=by
 unfold firstI
 cases h:l.findIdx? p with
 | none=>
   rw [List.findIdx?_eq_none_iff] at h
   have:l.any p=false:=by rw [List.any_eq_false];intro x hx;simp [h x hx]
   rw [this];rfl
 | some i=>
   rw [List.findIdx?_eq_some_iff_getElem] at h
   obtain ⟨h1,h2,_⟩:=h
   have:l.any p=true:=by rw [List.any_eq_true];exact ⟨l[i],List.getElem_mem h1,h2⟩
   rw [this]
   exact decide_eq_true (by show (0:Int)≤(i:Int);omega)
def c108:Cfg:=⟨[0,1,4],[],[],[],[],[]⟩
theorem containsFuncV (l:List Val) (hl:l.length≤LMAX) (f:FuncId) (caps:List AV) (p:Val→Bool) (hp:∀ w∈l,QCall Tryz.prog f (.agg (encVal w)::caps) [] (.bool (p w))) :
  QCall Tryz.prog 108 [.sl 4 none (l.map encVal),.fn f caps] [] (.bool (l.any p)):=by
 refine acalls (fn:=Tryz.f108) (code:=(Tryz.f108.body.getD .skip)) (c:=c108) rfl rfl rfl mixed (by simp [Tryz.f108]) fun X=>?_
 conv=>whnf
 refine QCall.k0 (indexFuncV l hl f caps p hp) ?_
 conv=>whnf
 exact ⟨congrArg AV.bool (firstI_any p l),rfl⟩
def textCh (kind:Int) (y:UInt8):Bool:=small y||(!decide (kind=3)&&big y)
def textOK (kind:Int) (s:List UInt8):Bool:=decide (1≤s.length)&&decide (s.length≤8)&&s.all (textCh kind)
def c107:Cfg:=⟨[0,1,4,5,6,14,18,42],[],[],[],[],[]⟩
theorem validText (kind:Int) (s:List UInt8) (hs:s.length≤LMAX):QCall Tryz.prog 107 [.int .i64 kind,.str s] [] (.bool (textOK kind s)):=by
 refine acalls (fn:=Tryz.f107) (code:=(Tryz.f107.body.getD .skip)) (c:=c107) rfl rfl rfl mixed (by simp [Tryz.f107]) fun X=>?_
 unfold LMAX at hs
 conv=>whnf
 refine ⟨fun hc=>?_,fun hc=>?_⟩
 ·have hc:(decide ((s.length:Int)<1)||decide (8<(s.length:Int)))=true:=hc
  conv=>whnf
  refine ⟨congrArg AV.bool ?_,rfl⟩
  symm
  simp only [Bool.or_eq_true,decide_eq_true_eq] at hc
  unfold textOK
  simp only [Bool.and_eq_false_iff,decide_eq_false_iff_not]
  omega
 ·have hc:(decide ((s.length:Int)<1)||decide (8<(s.length:Int)))=false:=hc
  simp only [Bool.or_eq_false_iff,decide_eq_false_iff_not] at hc
  have hpre:(decide (1≤s.length)&&decide (s.length≤8))=true:=by
   simp only [Bool.and_eq_true,decide_eq_true_eq]
   omega
  conv=>whnf
  refine loop_ok (c:=c107) mixed [0,1,5] [] (fun m r h=>∃ i:Nat,r=[(0,[],.int .i64 kind),(1,[],.str s),(5,[],.int .i64 i)]∧h=[]∧m=s.length - i∧i≤s.length∧∀ j y,j<i→s[j]?=some y→textCh kind y=true) ?_ ?_
  ·conv=>whnf
   exact ⟨_,0,rfl,rfl,rfl,by omega,by intro j y hj;omega⟩
  ·rintro m r h ⟨i,rfl,rfl,rfl,hi,hg⟩
   conv=>whnf
   refine ⟨fun hb=>?_,fun hb=>?_⟩
   ·have hb:(i:Int)<(s.length:Int):=of_decide_eq_true hb
    have hlt:i<s.length:=by omega
    have hx:=List.getElem?_eq_getElem hlt
    conv=>whnf
    refine ⟨i,s[i],⟨rfl,hx⟩,?_⟩
    have e:((decide ((97:Int)≤(s[i].toNat:Int))&&decide ((s[i].toNat:Int)≤122))||((!decide (kind=3)&&decide ((65:Int)≤(s[i].toNat:Int)))&&decide ((s[i].toNat:Int)≤90)))=textCh kind s[i]:=by
     unfold textCh big small
     rw [← le_cast,← le_cast,← le_cast',← le_cast',Bool.and_assoc]
     rfl
    conv=>whnf
    refine ⟨fun hc=>?_,fun hc=>?_⟩
    ·have hc:(!((decide ((97:Int)≤(s[i].toNat:Int))&&decide ((s[i].toNat:Int)≤122))||((!decide (kind=3)&&decide ((65:Int)≤(s[i].toNat:Int)))&&decide ((s[i].toNat:Int)≤90))))=true:=hc
     rw [e] at hc
     conv=>whnf
     refine ⟨congrArg AV.bool ?_,rfl⟩
     symm
     unfold textOK
     rw [Bool.and_eq_false_iff]
     right
     rw [List.all_eq_false]
     exact ⟨s[i],List.getElem_mem hlt,by simpa using hc⟩
    ·have hc:(!((decide ((97:Int)≤(s[i].toNat:Int))&&decide ((s[i].toNat:Int)≤122))||((!decide (kind=3)&&decide ((65:Int)≤(s[i].toNat:Int)))&&decide ((s[i].toNat:Int)≤90))))=false:=hc
     rw [e] at hc
     conv=>whnf
     refine ⟨⟨by omega,by omega⟩,?_⟩
     conv=>whnf
     refine ⟨s.length - (i+1),by omega,i+1,rfl,rfl,rfl,by omega,fun j y hj hy=>?_⟩
     rcases Nat.lt_succ_iff_lt_or_eq.1 hj with h|rfl
     ·exact hg j y h hy
     ·rw [hx] at hy;cases hy;simpa using hc
   ·have hb:¬ (i:Int)<(s.length:Int):=of_decide_eq_false hb
    conv=>whnf
    refine ⟨congrArg AV.bool ?_,rfl⟩
    symm
    unfold textOK
    rw [hpre,Bool.true_and,List.all_eq_true]
    intro y hy
    obtain ⟨j,hj,rfl⟩:=List.getElem_of_mem hy
    exact hg j _ (by omega) (List.getElem?_eq_getElem hj)
structure Sgn where
 code:List UInt8
 wide:Int
 high:Int
 even:Bool
 values:List Val
structure Lst where
 periods:Int
 signs:List Sgn
def encSgn (s:Sgn):List AV:=[.str s.code,.int .i64 s.wide,.int .i64 s.high,.bool s.even,.sl 4 none (s.values.map encVal)]
def encLst (l:Lst):List AV:=[.int .i64 l.periods,.sl 5 none (l.signs.map encSgn)]
def valErr (l:Lst) (before:List Val) (v:Val):Int:=
 if v.kind<1∨3<v.kind∨textOK v.kind v.text=false then 12
 else if v.fr<1∨v.to<v.fr∨l.periods<v.to then 13
 else if before.any (meetB v)=true then 12
 else 0
def c79:Cfg:=⟨[0,1,2,3,5,6,7,24,42],[],[],[],[],[]⟩
theorem checkValue (l:Lst) (before:List Val) (v:Val) (hb:before.length≤LMAX) (hv:v.text.length≤LMAX) :
  QCall Tryz.prog 79 [.agg (encLst l),.sl 4 none (before.map encVal),.agg (encVal v)] [] (.int .i64 (valErr l before v)):=by
 refine acalls (fn:=Tryz.f79) (code:=(Tryz.f79.body.getD .skip)) (c:=c79) rfl rfl rfl mixed (by simp [Tryz.f79]) fun X=>?_
 conv=>whnf
 refine ⟨_,fun h1=>validText v.kind v.text hv,?_⟩
 conv=>whnf
 refine ⟨fun hc=>?_,fun hc=>?_⟩
 ·have hc:(decide (v.kind<1)||decide (3<v.kind)||!(textOK v.kind v.text))=true:=hc
  conv=>whnf
  refine ⟨congrArg (AV.int .i64) ?_,rfl⟩
  unfold valErr
  rw [if_pos (by simpa [or_assoc] using hc)]
 ·have hc:(decide (v.kind<1)||decide (3<v.kind)||!(textOK v.kind v.text))=false:=hc
  have hc':¬ (v.kind<1∨3<v.kind∨textOK v.kind v.text=false):=by
   intro hh
   have:(decide (v.kind<1)||decide (3<v.kind)||!(textOK v.kind v.text))=true:=by simpa [or_assoc] using hh
   rw [hc] at this;cases this
  conv=>whnf
  refine ⟨fun hd=>?_,fun hd=>?_⟩
  ·have hd:(decide (v.fr<1)||decide (v.to<v.fr)||decide (l.periods<v.to))=true:=hd
   conv=>whnf
   refine ⟨congrArg (AV.int .i64) ?_,rfl⟩
   unfold valErr
   rw [if_neg hc',if_pos (by simpa [or_assoc] using hd)]
  ·have hd:(decide (v.fr<1)||decide (v.to<v.fr)||decide (l.periods<v.to))=false:=hd
   have hd':¬ (v.fr<1∨v.to<v.fr∨l.periods<v.to):=by
    intro hh
    have:(decide (v.fr<1)||decide (v.to<v.fr)||decide (l.periods<v.to))=true:=by simpa [or_assoc] using hh
    rw [hd] at this;cases this
   conv=>whnf
   refine QCall.k0 (containsFuncV before hb 109 [.iptr (encVal v)] (meetB v) (fun w _=>meetF v w)) ?_
   conv=>whnf
   refine ⟨fun he=>?_,fun he=>?_⟩
   ·have he:before.any (meetB v)=true:=he
    conv=>whnf
    refine ⟨congrArg (AV.int .i64) ?_,rfl⟩
    unfold valErr
    rw [if_neg hc',if_neg hd',if_pos he]
   ·have he:before.any (meetB v)=false:=he
    conv=>whnf
    refine ⟨congrArg (AV.int .i64) ?_,rfl⟩
    unfold valErr
    rw [if_neg hc',if_neg hd',if_neg (by rw [he];decide)]
end Go.Abs.Wall
namespace Go.Abs.Wall
open Go Go.Abs Go.Proofs
def Below {α:Type} (p:α→Bool) (l:List α) (i:Nat):Prop:=∀ j y,j<i→l[j]?=some y→p y=false
theorem Below.zero {α:Type} {p:α→Bool} {l:List α}:Below p l 0:=fun j y h=>by omega
theorem Below.succ {α:Type} {p:α→Bool} {l:List α} {i:Nat} {x:α} (h:Below p l i) (hx:l[i]?=some x) (hp:p x=false):Below p l (i+1):=by
 intro j y hj hy
 rcases Nat.lt_succ_iff_lt_or_eq.1 hj with h'|rfl
 ·exact h j y h' hy
 ·rw [hx] at hy;cases hy;exact hp
theorem Below.at {α:Type} {p:α→Bool} {l:List α} {i:Nat} {x:α} (hb:Below p l i) (hx:l[i]?=some x) (hp:p x=true):firstI p l=(i:Int):=by
 obtain ⟨h1,h2⟩:=List.getElem?_eq_some_iff.1 hx
 exact firstI_some h1 (by rw [h2];exact hp) (fun j hj=>hb j _ hj (List.getElem?_eq_getElem (by omega)))
theorem Below.all {α:Type} {p:α→Bool} {l:List α} {i:Nat} (hb:Below p l i) (hi:l.length≤i):∀ y∈l,p y=false:=by
 intro y hy
 obtain ⟨j,hj,rfl⟩:=List.getElem_of_mem hy
 exact hb j _ (by omega) (List.getElem?_eq_getElem hj)
theorem Below.end {α:Type} {p:α→Bool} {l:List α} {i:Nat} (hb:Below p l i) (hi:l.length≤i):firstI p l = -1:=
 firstI_none (fun j hj=>hb.all hi _ (List.getElem_mem hj))
def c90:Cfg:=⟨[0,1,4,5,7,8,9,16],[],[],[],[],[]⟩
def c60:Cfg:=⟨[0,1,4],[],[],[],[],[]⟩
theorem indexFuncI (l:List Int) (hl:l.length≤LMAX) (f:FuncId) (caps:List AV) (p:Int→Bool) (hp:∀ w∈l,QCall Tryz.prog f (.int .i64 w::caps) [] (.bool (p w))) :
  QCall Tryz.prog 90 [.sl 1 none (ints l),.fn f caps] [] (.int .i64 (firstI p l)):=by
 refine fcalls (F:=Tryz.f90) c90 rfl rfl rfl mixed rfl fun X=>?_
 conv=>whnf
 unfold LMAX at hl
 refine sloop rfl mixed [0,1,7,8] [] (fun m r h=>∃ (i:Nat),r=[(0,[],.sl 1 none (ints l)),(1,[],.fn f caps),(7,[],.int .i64 (ints l).length),(8,[],.int .i64 i)]∧h=[]∧m=l.length - i∧i≤l.length∧Below p l i) ?_ ?_
 ·conv=>whnf
  exact ⟨_,0,rfl,rfl,rfl,by omega,.zero⟩
 ·rintro m r h ⟨i,rfl,rfl,rfl,hi,hg⟩
  conv=>whnf
  refine ⟨fun hc=>?_,fun hc=>?_⟩<;>simp at hc
  ·obtain ⟨x,hx⟩:=get_lt hc
   conv=>whnf
   repeat ((first|refine ix (by assumption) ?_|(refine QCall.k0 (hp x (List.mem_of_getElem? hx)) ?_));conv=>whnf)
   refine ⟨fun hd=>?_,fun hd=>?_⟩
   ·conv=>whnf
    exact ⟨by rw [hg.at hx hd],rfl⟩
   ·conv=>whnf
    repeat (refine ⟨gP_of ⟨by omega,by omega⟩,?_⟩;conv=>whnf)
    exact ⟨_,by omega,i+1,rfl,rfl,rfl,by omega,hg.succ hx hd⟩
  ·conv=>whnf
   exact ⟨by rw [hg.end hc],rfl⟩
theorem containsFuncI (l:List Int) (hl:l.length≤LMAX) (f:FuncId) (caps:List AV) (p:Int→Bool) (hp:∀ w∈l,QCall Tryz.prog f (.int .i64 w::caps) [] (.bool (p w))) :
  QCall Tryz.prog 60 [.sl 1 none (ints l),.fn f caps] [] (.bool (l.any p)):=by
 refine fcalls (F:=Tryz.f60) c60 rfl rfl rfl mixed rfl fun X=>?_
 conv=>whnf
 refine QCall.k0 (indexFuncI l hl f caps p hp) ?_
 conv=>whnf
 exact ⟨congrArg AV.bool (firstI_any p l),rfl⟩
end Go.Abs.Wall
namespace Go.Abs.Wall
open Go Go.Abs Go.Proofs
def valsErr (l:Lst) (vs:List Val):List Val→Nat→Int
 | [],_=>0
 | v::t,i=>if valErr l (vs.take i) v≠0 then valErr l (vs.take i) v else valsErr l vs t (i+1)
def sgnErr (l:Lst) (s:Sgn):Int:=
 if s.wide<1∨12<s.wide∨s.high<1∨12<s.high then 11
 else if 12<s.values.length then 2
 else valsErr l s.values s.values 0
def lstGo (l:Lst):List Sgn→List (List UInt8)→Int
 | [],_=>0
 | s::t,seen=>if codeOK s.code=false∨s.code∈seen then 10 else if sgnErr l s≠0 then sgnErr l s else lstGo l t (seen++[s.code])
def lstErr (l:Lst):Int:=
 if 200<l.signs.length then 2
 else if l.periods<1∨9<l.periods then 13
 else lstGo l l.signs []
structure SgnFit (s:Sgn):Prop where
 code:s.code.length≤LMAX
 values:s.values.length≤LMAX
 texts:∀ v∈s.values,v.text.length≤LMAX
structure LstFit (l:Lst):Prop where
 signs:l.signs.length≤LMAX
 each:∀ s∈l.signs,SgnFit s
theorem eqStr (a b:List UInt8):eqV Tryz.prog 9 (.str a) (.str b)=some (decide (a=b)):=rfl
theorem plainStr:plainT Tryz.prog 9=true:=by decide +kernel
def ones (seen:List (List UInt8)):List (List UInt8 × Int):=seen.map fun c=>(c,1)
theorem ones_look (c:List UInt8) (seen:List (List UInt8)):(lookA c (ones seen)).getD 0=if c∈seen then 1 else 0:=by
 induction seen with
 | nil=>rfl
 | cons a t ih=>
   unfold ones at ih ⊢
   simp only [List.map_cons,lookA,List.mem_cons]
   by_cases h:c=a
   ·simp [h]
   ·simp [h,ih]
theorem ones_set (c:List UInt8) (seen:List (List UInt8)) (h:c ∉ seen):setA c 1 (ones seen)=ones (seen++[c]):=by
 induction seen with
 | nil=>rfl
 | cons a t ih=>
   simp only [List.mem_cons,not_or] at h
   unfold ones at ih ⊢
   simp only [List.map_cons,setA,List.cons_append]
   rw [if_neg h.1,ih h.2]
def c38:Cfg:=⟨[0,1,2,3,5,6,7,8,12,20,23,24,25,26,39,62,66,68,69,70,71,83],[],[5,7],[],[(19,[0,1,2,3,4,5,6,7],[])],[]⟩
set_option maxHeartbeats 1000000 in
theorem signsCheck (l:Lst) (hl:LstFit l):QCall Tryz.prog 38 [.agg (encLst l)] [] (.int .i64 (lstErr l)):=by
 have hl1:=hl.signs
 unfold LMAX at hl1
 refine QCall.of' (fcalls (F:=Tryz.f38) c38 rfl rfl rfl mixed rfl fun X=>?_)
 conv=>whnf
 refine ⟨fun hc=>?_,fun hc=>?_⟩<;>simp at hc
 ·conv=>whnf
  rw [lstErr,if_pos (by omega)]
 conv=>whnf
 refine ⟨fun hd=>?_,fun hd=>?_⟩<;>simp at hd
 ·conv=>whnf
  rw [lstErr,if_neg (by omega),if_pos (by omega)]
 have hgo:lstErr l=lstGo l l.signs []:=by rw [lstErr,if_neg (by omega),if_neg (by omega)]
 conv=>whnf
 intro bm
 conv=>whnf
 refine sloop rfl mixed [1,3,23,24,25] [] (fun m r h=>∃ (i:Nat) (seen:List (List UInt8)),r=[(1,[],.iptr (encLst l)),(3,[],.omap bm),(23,[],.sl 5 none (l.signs.map encSgn)),(24,[],.int .i64 (l.signs.map encSgn).length),(25,[],.int .i64 i)]∧h=[(bm,.map (encA AV.str (AV.int .i64) (ones seen)))]∧m=l.signs.length - i∧i≤l.signs.length∧lstErr l=lstGo l (l.signs.drop i) seen) ?_ ?_
 ·conv=>whnf
  exact ⟨_,0,[],rfl,rfl,rfl,by omega,hgo⟩
 ·rintro m r h ⟨i,seen,rfl,rfl,rfl,hi,hr⟩
  conv=>whnf
  refine ⟨fun he=>?_,fun he=>?_⟩<;>simp at he
  ·obtain ⟨s,hx⟩:=get_lt he
   have hf:=hl.each s (List.mem_of_getElem? hx)
   rw [drop_cons hx,lstGo] at hr
   conv=>whnf
   repeat ((first|refine ix (by assumption) ?_|refine ⟨_,_,Rem.here _,⟨Nat.le_of_ble_eq_true rfl,rfl⟩,?_⟩|intro (nb:Nat));conv=>whnf)
   refine QCall.k0 (validCode s.code hf.code) ?_
   conv=>whnf
   refine lkI (List.mem_singleton.2 rfl) eqStr plainStr ?_
   conv=>whnf
   rw [ones_look]
   refine ⟨fun hcc=>?_,fun hcc=>?_⟩
   ·have hcc:codeOK s.code=false∨s.code∈seen:=by
     by_cases hm:s.code∈seen
     ·exact .inr hm
     ·simp [hm] at hcc;exact .inl hcc
    conv=>whnf
    rw [hr,if_pos hcc]
   have hcc:¬ (codeOK s.code=false∨s.code∈seen):=by
    by_cases hm:s.code∈seen
    ·simp [hm] at hcc
    ·simp [hm] at hcc;simp [hm,hcc]
   rw [if_neg hcc] at hr
   conv=>whnf
   refine lkI (List.mem_singleton.2 rfl) eqStr plainStr ?_
   rw [ones_look]
   have hns:s.code ∉ seen:=fun h=>hcc (.inr h)
   rw [if_neg hns]
   conv=>whnf
   repeat (refine ⟨gP_of ⟨by omega,by omega⟩,?_⟩;conv=>whnf)
   refine upA eqStr plainStr (Upd.here _) ?_
   rw [show (0:Int)+1=1 from rfl,ones_set _ _ hns]
   conv=>whnf
   refine ⟨fun hz=>?_,fun hz=>?_⟩<;>simp at hz
   ·have hse:sgnErr l s=11:=by rw [sgnErr,if_pos (by omega)]
    rw [hse,if_pos (by decide)] at hr
    conv=>whnf
    rw [hr]
   conv=>whnf
   refine ⟨fun hy=>?_,fun hy=>?_⟩<;>simp at hy
   ·have hse:sgnErr l s=2:=by rw [sgnErr,if_neg (by omega),if_pos (by omega)]
    rw [hse,if_pos (by decide)] at hr
    conv=>whnf
    rw [hr]
   have hse:sgnErr l s=valsErr l s.values s.values 0:=by rw [sgnErr,if_neg (by omega),if_neg (by omega)]
   have hfv:=hf.values
   unfold LMAX at hfv
   conv=>whnf
   refine sloop rfl mixed [1,3,5,23,24,25,68,69,70] [] (fun m r h=>∃ (j:Nat),r=[(1,[],.iptr (encLst l)),(3,[],.omap bm),(5,[],.iptr (encSgn s)),(23,[],.sl 5 none (l.signs.map encSgn)),(24,[],.int .i64 (l.signs.map encSgn).length),(25,[],.int .i64 i),(68,[],.sl 4 none (s.values.map encVal)),(69,[],.int .i64 (s.values.map encVal).length),(70,[],.int .i64 j)]∧h=[(bm,.map (encA AV.str (AV.int .i64) (ones (seen++[s.code]))))]∧m=s.values.length - j∧j≤s.values.length∧sgnErr l s=valsErr l s.values (s.values.drop j) j) ?_ ?_
   ·conv=>whnf
    exact ⟨_,0,rfl,rfl,rfl,by omega,hse⟩
   ·rintro m r h ⟨j,rfl,rfl,rfl,hj,hv⟩
    conv=>whnf
    refine ⟨fun ha=>?_,fun ha=>?_⟩<;>simp at ha
    ·obtain ⟨v,hxv⟩:=get_lt ha
     have hvt:=hf.texts v (List.mem_of_getElem? hxv)
     rw [drop_cons hxv,valsErr] at hv
     conv=>whnf
     repeat ((first|refine ix (by assumption) ?_|refine ⟨_,_,Rem.here _,⟨Nat.le_of_ble_eq_true rfl,rfl⟩,?_⟩|refine And.intro (by show drawOK (opsAt Tryz.f38 _) _=true;decide +kernel) ?_|intro (nb:Nat));conv=>whnf)
     refine ⟨⟨by omega,by omega,by simp;omega⟩,?_⟩
     have hq:=checkValue l (s.values.take j) v (by simp [LMAX];omega) hvt
     rw [List.map_take] at hq
     conv=>whnf
     refine gcall hq ?_
     conv=>whnf
     refine ⟨fun hu=>?_,fun hu=>?_⟩<;>simp at hu
     ·rw [if_pos hu] at hv
      rw [hv,if_pos hu] at hr
      conv=>whnf
      rw [hr]
     ·rw [if_neg (by simpa using hu)] at hv
      conv=>whnf
      repeat (refine ⟨gP_of ⟨by omega,by omega⟩,?_⟩;conv=>whnf)
      exact ⟨_,by omega,j+1,rfl,rfl,rfl,by omega,hv⟩
    ·rw [drop_nil ha,valsErr] at hv
     rw [hv,if_neg (by decide)] at hr
     conv=>whnf
     repeat (refine ⟨gP_of ⟨by omega,by omega⟩,?_⟩;conv=>whnf)
     exact ⟨_,by omega,i+1,_,rfl,rfl,rfl,by omega,hr⟩
  ·rw [drop_nil he] at hr
   conv=>whnf
   rw [hr];rfl
end Go.Abs.Wall
namespace Go.Abs.Wall
open Go Go.Abs Go.Proofs
def c141:Cfg:=⟨[0,1,2,6],[],[],[],[],[]⟩
def c102:Cfg:=⟨[0,2,3,17,21,42],[],[],[],[],[]⟩
def c106:Cfg:=⟨[0,2,3,7,14],[],[],[],[],[]⟩
def c105:Cfg:=⟨[0,2,3,7,21],[],[],[],[],[]⟩
def c142:Cfg:=⟨[0,1,4,12,14],[],[],[],[],[]⟩
theorem between (c lo hi:Int):QCall Tryz.prog 141 [.int .u8 c,.int .u8 lo,.int .u8 hi] [] (.bool (decide (lo≤c)&&decide (c≤hi))):=by
 refine fcalls (F:=Tryz.f141) c141 rfl rfl rfl mixed rfl fun X=>?_
 conv=>whnf
 exact ⟨rfl,rfl⟩
theorem btw (y:UInt8) (a b:Nat):(decide ((a:Int)≤(y.toNat:Int))&&decide ((y.toNat:Int)≤(b:Int)))=(decide (a≤y.toNat)&&decide (y.toNat≤b)):=by
 rw [le_cast,le_cast']
theorem b97 (y:UInt8):(decide ((97:Int)≤(y.toNat:Int))&&decide ((y.toNat:Int)≤122))=small y:=btw y 97 122
theorem b65 (y:UInt8):(decide ((65:Int)≤(y.toNat:Int))&&decide ((y.toNat:Int)≤90))=big y:=btw y 65 90
theorem b48 (y:UInt8):(decide ((48:Int)≤(y.toNat:Int))&&decide ((y.toNat:Int)≤57))=digit y:=btw y 48 57
theorem refSmall (s:List UInt8) (hs:s.length≤LMAX):QCall Tryz.prog 106 [.str s] [] (.bool (s.all small)):=by
 refine fcalls (F:=Tryz.f106) c106 rfl rfl rfl mixed rfl fun X=>?_
 conv=>whnf
 unfold LMAX at hs
 refine sloop rfl mixed [0,3] [] (fun m r h=>∃ (i:Nat),r=[(0,[],.str s),(3,[],.int .i64 i)]∧h=[]∧m=s.length - i∧i≤s.length∧s.all small=(s.drop i).all small) ?_ ?_
 ·conv=>whnf
  exact ⟨_,0,rfl,rfl,rfl,by omega,rfl⟩
 ·rintro m r h ⟨i,rfl,rfl,rfl,hi,hr⟩
  conv=>whnf
  refine ⟨fun hc=>?_,fun hc=>?_⟩<;>simp at hc
  ·obtain ⟨y,hx⟩:=get_lt hc
   rw [drop_cons hx,List.all_cons] at hr
   conv=>whnf
   repeat ((first|refine sx (by assumption) ?_|refine QCall.k0 (between _ _ _) ?_);conv=>whnf)
   rw [b97]
   refine ⟨fun hd=>?_,fun hd=>?_⟩<;>simp at hd
   ·conv=>whnf
    exact ⟨by rw [hr,hd];rfl,rfl⟩
   ·rw [hd,Bool.true_and] at hr
    conv=>whnf
    repeat (refine ⟨gP_of ⟨by omega,by omega⟩,?_⟩;conv=>whnf)
    exact ⟨_,by omega,i+1,rfl,rfl,rfl,by omega,hr⟩
  ·rw [drop_nil hc] at hr
   conv=>whnf
   exact ⟨by rw [hr];rfl,rfl⟩
theorem refSounds (s:List UInt8) (hs:s.length≤LMAX):QCall Tryz.prog 105 [.str s] [] (.bool (s.all fun y=>small y||big y)):=by
 refine fcalls (F:=Tryz.f105) c105 rfl rfl rfl mixed rfl fun X=>?_
 conv=>whnf
 unfold LMAX at hs
 refine sloop rfl mixed [0,3] [] (fun m r h=>∃ (i:Nat),r=[(0,[],.str s),(3,[],.int .i64 i)]∧h=[]∧m=s.length - i∧i≤s.length∧(s.all fun y=>small y||big y)=(s.drop i).all fun y=>small y||big y) ?_ ?_
 ·conv=>whnf
  exact ⟨_,0,rfl,rfl,rfl,by omega,rfl⟩
 ·rintro m r h ⟨i,rfl,rfl,rfl,hi,hr⟩
  conv=>whnf
  refine ⟨fun hc=>?_,fun hc=>?_⟩<;>simp at hc
  ·obtain ⟨y,hx⟩:=get_lt hc
   rw [drop_cons hx,List.all_cons] at hr
   conv=>whnf
   repeat ((first|refine sx (by assumption) ?_|refine QCall.k0 (between _ _ _) ?_|refine gcall (between _ _ _) ?_);conv=>whnf)
   rw [b97,b65]
   refine ⟨fun hd=>?_,fun hd=>?_⟩
   ·conv=>whnf
    exact ⟨by rw [hr];simp at hd;simp [hd],rfl⟩
   ·rw [show (small y||big y)=true by simp at hd;cases h:small y<;>simp [h] at hd ⊢;exact hd,Bool.true_and] at hr
    conv=>whnf
    repeat (refine ⟨gP_of ⟨by omega,by omega⟩,?_⟩;conv=>whnf)
    exact ⟨_,by omega,i+1,rfl,rfl,rfl,by omega,hr⟩
  ·rw [drop_nil hc] at hr
   conv=>whnf
   exact ⟨by rw [hr];rfl,rfl⟩
theorem refCode (s:List UInt8) (hs:s.length≤LMAX):QCall Tryz.prog 102 [.str s] [] (.bool (codeOK s)):=by
 refine fcalls (F:=Tryz.f102) c102 rfl rfl rfl mixed rfl fun X=>?_
 conv=>whnf
 unfold LMAX at hs
 repeat ((first|(refine sxg ?_ ?_;(conv=>whnf);(intro h;simp at h;show 0≤0∧0<_;omega))|refine gcall (between _ _ _) ?_);conv=>whnf)
 rw [b65]
 refine ⟨fun hc=>?_,fun hc=>?_⟩
 ·conv=>whnf
  refine ⟨congrArg AV.bool ?_,rfl⟩
  symm
  simp only [Bool.or_eq_true,decide_eq_true_eq,Bool.not_eq_true'] at hc
  unfold codeOK
  simp only [Bool.and_eq_false_iff,decide_eq_false_iff_not]
  rcases hc with (hc|hc)|hc
  ·exact .inl (.inl (.inl (by omega)))
  ·exact .inl (.inl (.inr (by omega)))
  ·exact .inl (.inr hc)
 have hpre:(decide (1≤s.length)&&decide (s.length≤8)&&big (s[0]?.getD 0))=true:=by
  simp only [Bool.or_eq_false_iff,decide_eq_false_iff_not,Bool.not_eq_false'] at hc
  simp only [Bool.and_eq_true,decide_eq_true_eq]
  exact ⟨by omega,hc.2⟩
 have hco:codeOK s=s.all alnum:=by unfold codeOK;rw [hpre];rfl
 conv=>whnf
 refine sloop rfl mixed [0,3] [] (fun m r h=>∃ (i:Nat),r=[(0,[],.str s),(3,[],.int .i64 i)]∧h=[]∧m=s.length - i∧i≤s.length∧codeOK s=(s.drop i).all alnum) ?_ ?_
 ·conv=>whnf
  exact ⟨_,0,rfl,rfl,rfl,by omega,hco⟩
 ·rintro m r h ⟨i,rfl,rfl,rfl,hi,hr⟩
  conv=>whnf
  refine ⟨fun hc=>?_,fun hc=>?_⟩<;>simp at hc
  ·obtain ⟨y,hx⟩:=get_lt hc
   rw [drop_cons hx,List.all_cons] at hr
   conv=>whnf
   repeat ((first|refine sx (by assumption) ?_|refine QCall.k0 (between _ _ _) ?_|refine gcall (between _ _ _) ?_);conv=>whnf)
   rw [b97,b65,b48]
   refine ⟨fun hd=>?_,fun hd=>?_⟩
   ·conv=>whnf
    refine ⟨congrArg AV.bool ?_,rfl⟩
    rw [hr,show alnum y=false by unfold alnum;revert hd;cases small y<;>cases big y<;>cases digit y<;>decide];rfl
   ·rw [show alnum y=true by unfold alnum;revert hd;cases small y<;>cases big y<;>cases digit y<;>decide,Bool.true_and] at hr
    conv=>whnf
    repeat (refine ⟨gP_of ⟨by omega,by omega⟩,?_⟩;conv=>whnf)
    exact ⟨_,by omega,i+1,rfl,rfl,rfl,by omega,hr⟩
  ·rw [drop_nil hc] at hr
   conv=>whnf
   exact ⟨by rw [hr];rfl,rfl⟩
theorem refRight (kind:Int) (s:List UInt8) (hs:s.length≤LMAX):QCall Tryz.prog 142 [.int .i64 kind,.str s] [] (.bool (textOK kind s)):=by
 refine fcalls (F:=Tryz.f142) c142 rfl rfl rfl mixed rfl fun X=>?_
 conv=>whnf
 refine ⟨fun hc=>?_,fun hc=>?_⟩<;>simp at hc
 ·conv=>whnf
  refine ⟨congrArg AV.bool ?_,rfl⟩
  unfold textOK
  symm
  simp only [Bool.and_eq_false_iff,decide_eq_false_iff_not]
  omega
 have hpre:(decide (1≤s.length)&&decide (s.length≤8))=true:=by
  simp only [Bool.and_eq_true,decide_eq_true_eq];omega
 conv=>whnf
 refine ⟨fun hk=>?_,fun hk=>?_⟩<;>simp at hk
 ·conv=>whnf
  repeat (refine QCall.k0 (refSmall s hs) ?_;conv=>whnf)
  refine ⟨congrArg AV.bool ?_,rfl⟩
  unfold textOK
  rw [hpre,Bool.true_and]
  congr 1
  funext y
  unfold textCh
  simp [hk]
 ·conv=>whnf
  repeat (refine QCall.k0 (refSounds s hs) ?_;conv=>whnf)
  refine ⟨congrArg AV.bool ?_,rfl⟩
  unfold textOK
  rw [hpre,Bool.true_and]
  congr 1
  funext y
  unfold textCh
  simp [hk]
end Go.Abs.Wall
namespace Go.Abs.Wall
open Go Go.Abs Go.Proofs
def c143:Cfg:=⟨[0,1,2,3,4],[],[],[],[],[]⟩
def c103:Cfg:=⟨[0,1,2,4,5,10,20],[],[],[],[],[]⟩
def c104:Cfg:=⟨[0,1,2,4,5,6,7,25,29,34,57,73,76,85],[],[6],[],[(16,[0,1,2,3,4,5,6],[])],[]⟩
def c73:Cfg:=⟨[0,1,2,3,4,8,16,21,43,53],[],[],[],[(8,[0,1,2,3,4,5,6,7,8,9,10,11,12,13,14,15,16,17,18,19],[]),(10,[0,1,2,3,4,5,6,7,8],[])],[]⟩
theorem refCollide (a b:Val):QCall Tryz.prog 143 [.agg (encVal a),.agg (encVal b)] [] (.bool (meetB b a)):=by
 refine fcalls (F:=Tryz.f143) c143 rfl rfl rfl mixed rfl fun X=>?_
 conv=>whnf
 skip
 refine ⟨congrArg AV.bool ?_,rfl⟩
 unfold meetB
 rw [Bool.eq_iff_iff]
 simp only [Bool.and_eq_true,decide_eq_true_eq]
 constructor
 ·rintro ⟨⟨⟨h1,h2⟩,h3⟩,h4⟩
  exact ⟨⟨⟨h1.symm,h2.symm,trivial⟩,h4⟩,h3⟩
 ·rintro ⟨⟨⟨h1,h2,_⟩,h4⟩,h3⟩
  exact ⟨⟨⟨h1.symm,h2.symm⟩,h3⟩,h4⟩
theorem refIndex (l:Lst) (c:List UInt8) (hl:LstFit l):QCall Tryz.prog 103 [.agg (encLst l),.str c] [] (.int .i64 (firstI (fun s:Sgn=>decide (s.code=c)) l.signs)):=by
 refine fcalls (F:=Tryz.f103) c103 rfl rfl rfl mixed rfl fun X=>?_
 conv=>whnf
 have hl1:=hl.signs
 unfold LMAX at hl1
 refine sloop rfl mixed [1,2,5] [] (fun m r h=>∃ (i:Nat),r=[(1,[],.str c),(2,[],.iptr (encLst l)),(5,[],.int .i64 i)]∧h=[]∧m=l.signs.length - i∧i≤l.signs.length∧Below (fun s:Sgn=>decide (s.code=c)) l.signs i) ?_ ?_
 ·conv=>whnf
  exact ⟨_,0,rfl,rfl,rfl,by omega,.zero⟩
 ·rintro m r h ⟨i,rfl,rfl,rfl,hi,hg⟩
  conv=>whnf
  refine ⟨fun hc=>?_,fun hc=>?_⟩<;>simp at hc
  ·obtain ⟨x,hx⟩:=get_lt hc
   conv=>whnf
   repeat (refine ix (by assumption) ?_;conv=>whnf)
   refine ⟨fun hd=>?_,fun hd=>?_⟩
   ·conv=>whnf
    exact ⟨by rw [hg.at hx hd],rfl⟩
   ·conv=>whnf
    repeat (refine ⟨gP_of ⟨by omega,by omega⟩,?_⟩;conv=>whnf)
    exact ⟨_,by omega,i+1,rfl,rfl,rfl,by omega,hg.succ hx hd⟩
  ·conv=>whnf
   exact ⟨by rw [hg.end hc],rfl⟩
theorem refSign (l:Lst) (s:Sgn) (hf:SgnFit s):QCall Tryz.prog 104 [.agg (encSgn s),.int .i64 l.periods] [] (.int .i64 (sgnErr l s)):=by
 refine fcalls (F:=Tryz.f104) c104 rfl rfl rfl mixed rfl fun X=>?_
 conv=>whnf
 have hfv:=hf.values
 unfold LMAX at hfv
 refine ⟨fun hz=>?_,fun hz=>?_⟩<;>simp at hz
 ·conv=>whnf
  exact ⟨by rw [sgnErr,if_pos (by omega)],rfl⟩
 conv=>whnf
 refine ⟨fun hy=>?_,fun hy=>?_⟩<;>simp at hy
 ·conv=>whnf
  exact ⟨by rw [sgnErr,if_neg (by omega),if_pos (by omega)],rfl⟩
 have hse:sgnErr l s=valsErr l s.values s.values 0:=by rw [sgnErr,if_neg (by omega),if_neg (by omega)]
 conv=>whnf
 refine sloop rfl mixed [1,2,5] [] (fun m r h=>∃ (i:Nat),r=[(1,[],.int .i64 l.periods),(2,[],.iptr (encSgn s)),(5,[],.int .i64 i)]∧h=[]∧m=s.values.length - i∧i≤s.values.length∧sgnErr l s=valsErr l s.values (s.values.drop i) i) ?_ ?_
 ·conv=>whnf
  exact ⟨_,0,rfl,rfl,rfl,by omega,hse⟩
 ·rintro m r h ⟨i,rfl,rfl,rfl,hi,hr⟩
  conv=>whnf
  refine ⟨fun hc=>?_,fun hc=>?_⟩<;>simp at hc
  ·obtain ⟨v,hx⟩:=get_lt hc
   have hvt:=hf.texts v (List.mem_of_getElem? hx)
   rw [drop_cons hx,valsErr] at hr
   conv=>whnf
   repeat ((first|refine ix (by assumption) ?_|refine gcall (refRight v.kind v.text hvt) ?_|refine ⟨_,_,Rem.here _,⟨Nat.le_of_ble_eq_true rfl,rfl⟩,?_⟩|intro (nb:Nat));conv=>whnf)
   refine ⟨fun hd=>?_,fun hd=>?_⟩
   ·have he:valErr l (s.values.take i) v=12:=by unfold valErr;rw [if_pos (by simpa [or_assoc] using hd)]
    rw [he,if_pos (by decide)] at hr
    conv=>whnf
    exact ⟨by rw [hr],rfl⟩
   have hd':¬ (v.kind<1∨3<v.kind∨textOK v.kind v.text=false):=by
    intro hh
    have:(decide (v.kind<1)||decide (3<v.kind)||!(textOK v.kind v.text))=true:=by simpa [or_assoc] using hh
    rw [hd] at this;cases this
   conv=>whnf
   skip
   refine ⟨fun he=>?_,fun he=>?_⟩
   ·have he:valErr l (s.values.take i) v=13:=by unfold valErr;rw [if_neg hd',if_pos (by simpa [or_assoc] using he)]
    rw [he,if_pos (by decide)] at hr
    conv=>whnf
    exact ⟨by rw [hr],rfl⟩
   have he':¬ (v.fr<1∨v.to<v.fr∨l.periods<v.to):=by
    intro hh
    have:(decide (v.fr<1)||decide (v.to<v.fr)||decide (l.periods<v.to))=true:=by simpa [or_assoc] using hh
    rw [he] at this;cases this
   have hve:valErr l (s.values.take i) v=if (s.values.take i).any (meetB v)=true then 12 else 0:=by
    unfold valErr;rw [if_neg hd',if_neg he']
   conv=>whnf
   refine sloop rfl mixed [1,2,5,6,7] [] (fun m r h=>∃ (k:Nat),r=[(1,[],.int .i64 l.periods),(2,[],.iptr (encSgn s)),(5,[],.int .i64 i),(6,[],.iptr (encVal v)),(7,[],.int .i64 k)]∧h=[]∧m=i - k∧k≤i∧Below (meetB v) (s.values.take i) k) ?_ ?_
   ·conv=>whnf
    exact ⟨_,0,rfl,rfl,rfl,by omega,.zero⟩
   ·rintro m r h ⟨k,rfl,rfl,rfl,hk,hg⟩
    conv=>whnf
    refine ⟨fun ha=>?_,fun ha=>?_⟩<;>simp at ha
    ·obtain ⟨w,hxw⟩:=get_lt (show k<s.values.length by omega)
     have hxw':(s.values.take i)[k]?=some w:=by rw [List.getElem?_take_of_lt ha];exact hxw
     conv=>whnf
     repeat ((first|refine ix (by assumption) ?_|refine gcall (refCollide w v) ?_|refine And.intro (by show drawOK (opsAt Tryz.f104 _) _=true;decide +kernel) ?_);conv=>whnf)
     refine ⟨fun hm=>?_,fun hm=>?_⟩
     ·have:(s.values.take i).any (meetB v)=true:=List.any_eq_true.2 ⟨w,List.mem_of_getElem? hxw',hm⟩
      rw [hve,if_pos this,if_pos (by decide)] at hr
      conv=>whnf
      exact ⟨by rw [hr],rfl⟩
     ·conv=>whnf
      repeat (refine ⟨gP_of ⟨by omega,by omega⟩,?_⟩;conv=>whnf)
      exact ⟨_,by omega,k+1,rfl,rfl,rfl,by omega,hg.succ hxw' hm⟩
    ·have:¬ (s.values.take i).any (meetB v)=true:=by
      intro h
      obtain ⟨y,hy,hm⟩:=List.any_eq_true.1 h
      rw [hg.all (by simp;omega) y hy] at hm
      cases hm
     rw [hve,if_neg this,if_neg (by decide)] at hr
     conv=>whnf
     repeat (refine ⟨gP_of ⟨by omega,by omega⟩,?_⟩;conv=>whnf)
     exact ⟨_,by omega,i+1,rfl,rfl,rfl,by omega,hr⟩
  ·rw [drop_nil hc] at hr
   conv=>whnf
   exact ⟨by rw [hr];rfl,rfl⟩
theorem first_lt {l:List Sgn} {i:Nat} {s:Sgn} (hx:l[i]?=some s):firstI (fun x:Sgn=>decide (x.code=s.code)) l<(i:Int)↔s.code∈(l.take i).map Sgn.code:=by
 unfold firstI
 cases h:l.findIdx? (fun x:Sgn=>decide (x.code=s.code)) with
 | none=>
   rw [List.findIdx?_eq_none_iff] at h
   have:=h s (List.mem_of_getElem? hx)
   simp at this
 | some j=>
   rw [List.findIdx?_eq_some_iff_getElem] at h
   obtain ⟨h1,h2,h3⟩:=h
   simp only [decide_eq_true_eq] at h2 h3
   constructor
   ·intro hlt
    have hlt:j<i:=by simpa using hlt
    rw [← h2]
    refine List.mem_map.2 ⟨l[j],?_,rfl⟩
    exact List.mem_iff_getElem?.2 ⟨j,by rw [List.getElem?_take_of_lt hlt];exact List.getElem?_eq_getElem h1⟩
   ·intro hm
    obtain ⟨y,hy,hc⟩:=List.mem_map.1 hm
    obtain ⟨k,hk⟩:=List.mem_iff_getElem?.1 hy
    have hki:k<i:=by
     have:=(List.getElem?_eq_some_iff.1 hk).1
     simp at this;omega
    rw [List.getElem?_take_of_lt hki] at hk
    obtain ⟨hk1,hk2⟩:=List.getElem?_eq_some_iff.1 hk
    show (j:Int)<(i:Int)
    by_cases hjk:k<j
    ·have:=h3 k hjk
     rw [hk2] at this
     exact absurd hc this
    ·omega
theorem refCheck (l:Lst) (hl:LstFit l):QCall Tryz.prog 73 [.agg (encLst l)] [] (.int .i64 (lstErr l)):=by
 have hl1:=hl.signs
 unfold LMAX at hl1
 refine fcalls (F:=Tryz.f73) c73 rfl rfl rfl mixed rfl fun X=>?_
 conv=>whnf
 refine ⟨fun hc=>?_,fun hc=>?_⟩<;>simp at hc
 ·conv=>whnf
  exact ⟨by rw [lstErr,if_pos (by omega)],rfl⟩
 conv=>whnf
 refine ⟨fun hd=>?_,fun hd=>?_⟩<;>simp at hd
 ·conv=>whnf
  exact ⟨by rw [lstErr,if_neg (by omega),if_pos (by omega)],rfl⟩
 have hgo:lstErr l=lstGo l l.signs []:=by rw [lstErr,if_neg (by omega),if_neg (by omega)]
 conv=>whnf
 refine sloop rfl mixed [1,3] [] (fun m r h=>∃ (i:Nat),r=[(1,[],.iptr (encLst l)),(3,[],.int .i64 i)]∧h=[]∧m=l.signs.length - i∧i≤l.signs.length∧lstErr l=lstGo l (l.signs.drop i) ((l.signs.take i).map Sgn.code)) ?_ ?_
 ·conv=>whnf
  exact ⟨_,0,rfl,rfl,rfl,by omega,hgo⟩
 ·rintro m r h ⟨i,rfl,rfl,rfl,hi,hr⟩
  conv=>whnf
  refine ⟨fun he=>?_,fun he=>?_⟩<;>simp at he
  ·obtain ⟨s,hx⟩:=get_lt he
   have hf:=hl.each s (List.mem_of_getElem? hx)
   have hnext:(l.signs.take i).map Sgn.code++[s.code]=(l.signs.take (i+1)).map Sgn.code:=by
    rw [List.take_add_one,hx];simp
   rw [drop_cons hx,lstGo,hnext] at hr
   simp only [← first_lt hx] at hr
   conv=>whnf
   repeat ((first|refine ix (by assumption) ?_|refine gcall (refCode s.code hf.code) ?_|refine gcall (refIndex l s.code hl) ?_|refine And.intro (by show drawOK (opsAt Tryz.f73 _) _=true;decide +kernel) ?_);conv=>whnf)
   refine ⟨fun hcc=>?_,fun hcc=>?_⟩
   ·have hcc:codeOK s.code=false∨firstI (fun x:Sgn=>decide (x.code=s.code)) l.signs<(i:Int):=by
     simpa [or_comm] using hcc
    conv=>whnf
    exact ⟨by rw [hr,if_pos hcc],rfl⟩
   have hcc:¬ (codeOK s.code=false∨firstI (fun x:Sgn=>decide (x.code=s.code)) l.signs<(i:Int)):=by
    simp at hcc ⊢;exact ⟨hcc.1,hcc.2⟩
   rw [if_neg hcc] at hr
   conv=>whnf
   repeat ((first|refine ix (by assumption) ?_|refine gcall (refSign l s hf) ?_|refine And.intro (by show drawOK (opsAt Tryz.f73 _) _=true;decide +kernel) ?_);conv=>whnf)
   refine ⟨fun hu=>?_,fun hu=>?_⟩<;>simp at hu
   ·rw [if_pos hu] at hr
    conv=>whnf
    exact ⟨by rw [hr],rfl⟩
   ·rw [if_neg (by simpa using hu)] at hr
    conv=>whnf
    repeat (refine ⟨gP_of ⟨by omega,by omega⟩,?_⟩;conv=>whnf)
    exact ⟨_,by omega,i+1,rfl,rfl,rfl,by omega,hr⟩
  ·rw [drop_nil he] at hr
   conv=>whnf
   exact ⟨by rw [hr];rfl,rfl⟩
end Go.Abs.Wall
