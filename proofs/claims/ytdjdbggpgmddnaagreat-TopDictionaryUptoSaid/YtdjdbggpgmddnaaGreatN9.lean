/- Small laws for the walks and contracts of functions; each theorem names its conditions. -/
import Derived.Test.YtdjdbggpgmddnaaGreatN8
/-
 The abstract layer,part O: the law on drawn regions.
-/
set_option linter.unusedVariables false
set_option linter.unusedSimpArgs false
namespace Go.Abs
open Go
variable {P:Program} {n:Nat} {X:Nat->Prop} {g0:Gh} {r:Regs} {h:Heap} {a:Act} {w:World}
variable {all:List Oper} {cl:List Nat} {ord:List Nat}
variable {kn rest nf:List Nat} {ents:List (Nat × Nat × G × AV)} {L:Array Bool}
theorem DInv.lt (hi:DInv n P all cl ord r kn rest nf ents h L) (hs:DrawS all cl ord) {i:Nat} (hm:i∈ord):i<L.size/\∃ o,all[i]?=some o:=by obtain ⟨pre,post,e⟩:=List.append_of_mem hm;obtain ⟨o,ho,_⟩:=hs.p4 pre i post e;exact ⟨by rw [hi.lsize];exact (List.getElem?_eq_some_iff.1 ho).1,o,ho⟩
theorem DInv.list (hi:DInv n P all cl ord r kn rest nf ents h L) {k:Nat} {o:Oper} (hk:k∈kn) (hko:all[k]?=some o)
  (he:∀ e∈o.after.toList,Region.binds .any e=true->L.getD e.on false=true):DInv n P all cl ord r kn rest nf ents h (L.setIfInBounds k true):=by
 refine ⟨hi.split,by simpa using hi.lsize,?_,?_,hi.ent1,hi.ent2,hi.ent3,hi.path,?_⟩
 ·intro i hL;rcases getD_set hL with rfl|hL
  ·exact hk
  exact hi.lsub i hL
 ·intro i hL;rcases getD_set hL with rfl|hL
  ·exact ⟨o,hko,fun e h1 h2=>getD_set_true (he e h1 h2)⟩
  obtain ⟨o',ho',hh⟩:=hi.lclosed i hL;exact ⟨o',ho',fun e h1 h2=>getD_set_true (hh e h1 h2)⟩
 intro k' hk' hL;refine hi.fact k' hk' ?_;cases hb:L.getD k' false with
 | false=>rfl
 | true=>rw [getD_set_true hb] at hL;cases hL
theorem first_unlisted {p:Nat->Bool}:∀ {l:List Nat},(∃ i∈l,p i=false)->∃ pre i post,l=pre++i::post/\(∀ j∈pre,p j=true)/\p i=false
 | [],h=>by obtain ⟨i,h,_⟩:=h;cases h
 | x::l,h=>by
   cases hx:p x with
   | false=>exact ⟨[],x,l,rfl,by simp,hx⟩
   | true=>
     obtain ⟨i,hi,hp⟩:=h
     have:∃ i∈l,p i=false:=by
      rcases List.mem_cons.1 hi with rfl|hi
      ·rw [hx] at hp;cases hp
      exact ⟨i,hi,hp⟩
     obtain ⟨pre,i,post,rfl,h1,h2⟩:=first_unlisted this;refine ⟨x::pre,i,post,rfl,fun j hj=>?_,h2⟩;rcases List.mem_cons.1 hj with rfl|hj
     ·exact hx
     exact h1 j hj
theorem ready_none (hi:DInv n P all cl ord r kn rest nf ents h L) (hs:DrawS all cl ord) (hr:Region.ready .any all.toArray L=[]):∀ i∈ord,L.getD i false=true:=by
 intro i hm;cases hb:L.getD i false with
 | true=>rfl
 | false=>
   obtain ⟨pre,k,post,e,h1,h2⟩:=first_unlisted (p:=fun i=>L.getD i false) ⟨i,hm,hb⟩;obtain ⟨o,ho,hh⟩:=hs.p4 pre k post e;have hlt:k<L.size:=by rw [hi.lsize];exact (List.getElem?_eq_some_iff.1 ho).1
   have:k∈Region.ready .any all.toArray L:=by rw [mem_ready];refine ⟨by rw [getD_true_false hlt];exact h2,o,by simpa using ho,fun e he hb=>h1 _ (hh e (by simpa using he) hb)⟩
   rw [hr] at this;cases this
def unl (N:Nat) (L:Array Bool):Nat:=((List.range N).filter fun i=>!L.getD i false).length
theorem unl_set {N k:Nat} (hk:k<N) (hN:N=L.size) (hf:L.getD k false=false):unl N (L.setIfInBounds k true)<unl N L:=by
 unfold unl
 have key:∀ l:List Nat,(l.filter fun i=>!(L.setIfInBounds k true).getD i false).length<=(l.filter fun i=>!L.getD i false).length /\
   (k∈l->(l.filter fun i=>!(L.setIfInBounds k true).getD i false).length<(l.filter fun i=>!L.getD i false).length):=by
  intro l;induction l with
  | nil=>simp
  | cons x l ih=>
    simp only [List.filter_cons];by_cases hx:k=x
    ·subst hx;have h1:(L.setIfInBounds k true).getD k false=true:=(by simp [show k<L.size from hN ▸ hk]);rw [h1,hf];simp only [Bool.not_true,Bool.false_eq_true,if_false,Bool.not_false,if_true,List.length_cons];exact ⟨by omega,fun _=>by omega⟩
    rw [getD_set_ne false hx];split
    ·simp only [List.length_cons];refine ⟨by omega,fun hm=>?_⟩;have:=ih.2 ((List.mem_cons.1 hm).resolve_left hx);omega
    refine ⟨ih.1,fun hm=>ih.2 ((List.mem_cons.1 hm).resolve_left hx)⟩
 exact (key _).2 (List.mem_range.2 hk)
theorem unl_zero {N:Nat} (h:unl N L=0):∀ i<N,L.getD i false=true:=by intro i hi;unfold unl at h;have:=List.eq_nil_of_length_eq_zero h;rw [List.filter_eq_nil_iff] at this;simpa using this i (List.mem_range.2 hi)
theorem pathOK_ok {i:Nat}:∀ {g:G},pathOK cl all i g=true->∀ e∈g,∀ j o,all[j]?=some o->o.dst=some e.1->Cl cl i j
 | [],_,e,he=>by cases he
 | (t,b,w)::g,h,e,he=>by
   simp only [pathOK,Bool.and_eq_true] at h;rcases List.mem_cons.1 he with rfl|he
   ·intro j o ho hd;have:=List.all_eq_true.1 h.1 (o,j) (by rw [List.mem_zipIdx_iff_getElem?];exact ho);unfold Cl;simpa [isDst_iff.2 hd] using this
   exact pathOK_ok h.2 e he
theorem lateOK_ok {i:Nat}:∀ {l:List Nat},lateOK cl i l=true->∀ j∈l,Cl cl j i
 | [],_,j,hj=>by cases hj
 | x::l,h,j,hj=>by
   unfold lateOK at h;split at h
   ·rename_i hb;rcases List.mem_cons.1 hj with rfl|hj
    ·exact hb
    exact lateOK_ok h j hj
   cases h
theorem nfOK_ok {i:Nat}:∀ {l:List Nat},nfOK cl i l=true->∀ j∈l,Cl cl i j
 | [],_,j,hj=>by cases hj
 | x::l,h,j,hj=>by
   unfold nfOK at h;split at h
   ·rename_i hb;rcases List.mem_cons.1 hj with rfl|hj
    ·exact hb
    exact nfOK_ok h j hj
   cases h
theorem Look.more {ents':List (Nat × Nat × G × AV)} (hsub:∀ x∈ents,x∈ents') {k t:Nat} {x:Option (G × AV)} (h:Look all cl ents r k t x):Look all cl ents' r k t x:=by
 rcases h with ⟨j,g,v,h1,h2,h3⟩|h
 ·exact .inl ⟨j,g,v,h1,hsub _ h2,h3⟩
 exact .inr h
theorem notIn_entR {d:Nat}:∀ {ents:List (Nat × Nat × G × AV)},notIn (entR ents r) d=true->notIn r d=true
 | [],h=>h
 | (i,t,g,v)::ents,h=>by have h:notIn ((t,g,v)::entR ents r) d=true:=h;exact notIn_entR (notIn_cons h).2
theorem DInv.enter {k:Nat} (hi:DInv n P all cl ord r kn (k::rest) nf ents h L) (hs:DrawS all cl ord) {o:Oper} (hko:all[k]?=some o) {ents':List (Nat × Nat × G × AV)} {nf':List Nat} {h':Heap} {g:G} {v:AV}
  (hents:ents'=match o.dst with|some d=>(k,d,g,v)::ents|none=>ents) (hpath:∀ e∈g,∀ j o,all[j]?=some o->o.dst=some e.1->Cl cl k j)
  {L':Array Bool} (hL:L'=L\/L'=L.setIfInBounds k true/\∀ e∈o.after.toList,Region.binds .any e=true->L.getD e.on false=true)
  (hfact:∀ k'∈kn,L'.getD k' false=false->∃ o g v Rk,all[k']?=some o/\entryQ P all Rk h' (fun g' v'=>g'=g/\v'=v) o /\
    (∀ t∈readsOf all o,Look all cl ents r k' t (lookR Rk t)) /\
    (∀ d,o.dst=some d->(k',d,g,v)∈ents/\d<n/\(∀ e∈g,e.1≠d)/\∀ t gg v,lookR r t=some (gg,v)->∀ e∈gg,e.1≠d) /\
    (k' ∉ nf'->∀ h',entryQ P all Rk h' (fun g' v'=>g'=g/\v'=v) o))
  (hown:L'.getD k false=false->∃ o g v Rk,all[k]?=some o/\entryQ P all Rk h' (fun g' v'=>g'=g/\v'=v) o /\
    (∀ t∈readsOf all o,Look all cl ents' r k t (lookR Rk t)) /\
    (∀ d,o.dst=some d->(k,d,g,v)∈ents'/\d<n/\(∀ e∈g,e.1≠d)/\∀ t gg v,lookR r t=some (gg,v)->∀ e∈gg,e.1≠d) /\
    (k ∉ nf'->∀ h',entryQ P all Rk h' (fun g' v'=>g'=g/\v'=v) o)) :
  DInv n P all cl ord r (kn++[k]) rest nf' ents' h' L':=by
 have hnk:k ∉ kn:=by have:=hs.p3;rw [hi.split,List.nodup_append] at this;exact fun hm=>this.2.2 k hm k (by simp) rfl
 have hsub:∀ x∈ents,x∈ents':=by
  intro x hx;rw [hents];split
  ·exact List.mem_cons_of_mem _ hx
  exact hx
 have hin:∀ x∈ents',x∈ents\/(∃ d,o.dst=some d/\x=(k,d,g,v)):=by
  intro x hx;rw [hents] at hx;split at hx
  ·rename_i d hd;rcases List.mem_cons.1 hx with rfl|hx
   ·exact .inr ⟨d,hd,rfl⟩
   exact .inl hx
  exact .inl hx
 refine ⟨by rw [hi.split];simp,?_,?_,?_,?_,?_,?_,?_,?_⟩
 ·rcases hL with rfl|⟨rfl,_⟩
  ·exact hi.lsize
  simpa using hi.lsize
 ·intro i hli;rcases hL with rfl|⟨rfl,_⟩
  ·exact List.mem_append_left _ (hi.lsub i hli)
  rcases getD_set hli with rfl|hli
  ·simp
  exact List.mem_append_left _ (hi.lsub i hli)
 ·intro i hli;rcases hL with rfl|⟨rfl,he⟩
  ·exact hi.lclosed i hli
  rcases getD_set hli with rfl|hli
  ·exact ⟨o,hko,fun e h1 h2=>getD_set_true (he e h1 h2)⟩
  obtain ⟨o',ho',hh⟩:=hi.lclosed i hli;exact ⟨o',ho',fun e h1 h2=>getD_set_true (hh e h1 h2)⟩
 ·intro x hx;rcases hin x hx with hx|⟨d,hd,rfl⟩
  ·obtain ⟨h1,h2⟩:=hi.ent1 x hx;exact ⟨List.mem_append_left _ h1,h2⟩
  exact ⟨by simp,o,hko,hd⟩
 ·intro x hx y hy e;rcases hin x hx with hx|⟨d,hd,rfl⟩<;>rcases hin y hy with hy|⟨d',hd',rfl⟩
  ·exact hi.ent2 x hx y hy e
  ·exact absurd (show k∈kn from (show x.1=k from e) ▸ (hi.ent1 x hx).1) hnk
  ·exact absurd (show k∈kn from (show y.1=k from e.symm) ▸ (hi.ent1 y hy).1) hnk
  rw [hd] at hd';cases hd';rfl
 ·intro k' hk' o' d ho' hd;rcases List.mem_append.1 hk' with hk'|hk'
  ·obtain ⟨g',v',hm⟩:=hi.ent3 k' hk' o' d ho' hd;exact ⟨g',v',hsub _ hm⟩
  simp at hk';subst hk';rw [hko] at ho';cases ho'
  refine ⟨g,v,?_⟩;rw [hents,hd];exact List.mem_cons_self
 ·intro x hx e he j o' ho' hd';rcases hin x hx with hx|⟨d,hd,rfl⟩
  ·exact hi.path x hx e he j o' ho' hd'
  exact hpath e he j o' ho' hd'
 intro k' hk' hl;rcases List.mem_append.1 hk' with hk'|hk'
 ·obtain ⟨o',g',v',Rk,h1,h2,h3,h4,h5⟩:=hfact k' hk' hl;exact ⟨o',g',v',Rk,h1,h2,fun t ht=>(h3 t ht).more hsub,fun d hd=>⟨hsub _ (h4 d hd).1,(h4 d hd).2⟩,h5⟩
 simp at hk';subst hk';exact hown hl
end Go.Abs
/-
 The abstract layer,part P: appending behind a token leaves every own object but tokens as it was.
-/
namespace Go.Abs
open Go
variable {P:Program} {r:Regs} {h h':Heap}
def Kept (h h':Heap):Prop:=∀ b o,(b,o)∈h->o≠.tok->(b,o)∈h'
theorem Kept.cons (x:Nat × Ob):Kept h (x::h):=fun b o hm _=>List.mem_cons_of_mem _ hm
theorem Kept.upd {q q':Nat} (hu:Upd q .tok q' .tok h h'):Kept h h':=by
 induction hu with
 | here h=>
   intro b o hm hne;rcases List.mem_cons.1 hm with e|hm
   ·cases e;exact absurd rfl hne
   exact List.mem_cons_of_mem _ hm
 | there hu ih=>
   intro b o hm hne;rcases List.mem_cons.1 hm with e|hm
   ·subst e;exact List.mem_cons_self
   exact List.mem_cons_of_mem _ (ih b o hm hne)
theorem opQ_kept {g:G} {K:AV->Prop} {op:Op} (ho:reads op=true) (hk:Kept h h') (hq:opQ P r g h K op):opQ P r g h' K op:=by
 cases op<;>try (simp [reads] at ho;done)
 case load t y=>
  simp only [opQ] at hq ⊢;split at hq
  ·exact hq
  ·obtain ⟨cs,l,h1,h2⟩:=hq;exact ⟨cs,l,hk _ _ h1 (by simp),h2⟩
  exact hq
 case lookup t x i ok=>
  revert hq;unfold opQ;simp only;repeat' split
  all_goals first
   | exact fun hh=>hh
   | exact fun ⟨es,v,f,h1,h2⟩=>⟨es,v,f,hk _ _ h1 (by simp),h2⟩
theorem nfOKc_ok {all:List Oper} {cl:List Nat} {i:Nat}:∀ {nf:List Nat},nfOKc cl all i nf=true->∀ j∈nf,Nat.testBit (clN cl i) j=true\/∃ o,all[j]?=some o/\reads o.op=true
 | [],_,j,hj=>by cases hj
 | k::nf,h,j,hj=>by
   unfold nfOKc at h;split at h
   ·rename_i h1;rcases List.mem_cons.1 hj with rfl|hj
    ·exact .inl h1
    exact nfOKc_ok h j hj
   split at h<;>try contradiction
   rename_i o ho;split at h<;>try contradiction
   rename_i hr;rcases List.mem_cons.1 hj with rfl|hj
   ·exact .inr ⟨o,ho,hr⟩
   exact nfOKc_ok h j hj
theorem opL_calm {K:AV->Heap->Prop} {op:Op} (ha:calm r op=true) (hq:opL P r h K op):opL P r h (fun v h'=>K v h'/\Kept h h') op:=by
 unfold calm at ha;split at ha<;>try contradiction
 rename_i cl;split at ha<;>try contradiction
 rename_i hcal;simp only [opL,hcal] at hq ⊢;split at hq<;>try contradiction
 split at hq<;>try contradiction
 split at hq<;>try contradiction
 split at hq<;>try contradiction
 split at hq<;>try contradiction
 split at hq<;>try contradiction
 split at hq
 ·split at hq<;>try contradiction
  obtain ⟨cs2,ys,h1,h2,h3,h4⟩:=hq;exact ⟨cs2,ys,h1,h2,h3,fun q=>⟨h4 q,.cons _⟩⟩
 ·rename_i e;rw [e] at ha;simp at ha
 ·split at hq<;>try contradiction
  exact ⟨hq.1,fun q=>⟨hq.2 q,.cons _⟩⟩
 ·rename_i e;rw [e] at ha;simp at ha
 ·rename_i e;rw [e] at ha;simp at ha
 ·split at hq<;>try contradiction
  obtain ⟨cs,ys,h1,h2,h3,h4⟩:=hq;exact ⟨cs,ys,h1,h2,h3,fun q'=>let ⟨h',a,b⟩:=h4 q';⟨h',a,b,.upd a⟩⟩
 ·split at hq<;>try contradiction
  split at hq<;>try contradiction
  exact ⟨hq.1,fun q'=>let ⟨h',a,b⟩:=hq.2 q';⟨h',a,b,.upd a⟩⟩
 ·exact hq.elim
 split at hq<;>try contradiction
 split at hq<;>try contradiction
 split at hq<;>try contradiction
 split at hq<;>try contradiction
 split at hq<;>try contradiction
 split at hq<;>try contradiction
 rename_i e;rw [e] at ha;simp at ha
theorem opX_calm {K:AV->Heap->Prop} {op:Op} {own own2:List Nat} {d:Option Nat} (ha:calm r op=true) (hq:opX P own own2 d r h K op):opX P own own2 d r h (fun v h'=>K v h'/\Kept h h') op:=by
 unfold opX at hq ⊢;split at hq
 ·rename_i cl d;split at hq
  ·skip;unfold opO at hq ⊢;revert hq;repeat' split
   all_goals first|exact fun hh=>hh.elim|exact fun hh=>⟨hh.1,fun b=>⟨hh.2 b,.cons _⟩⟩
  skip;exact opL_calm ha hq
 ·simp [calm] at ha
 exact opL_calm ha hq
end Go.Abs
/-
 The abstract layer,part Q: the law on drawn regions,its end.
-/
namespace Go.Abs
open Go
variable {P:Program} {n:Nat} {X:Nat->Prop} {g0:Gh} {r:Regs} {h:Heap} {a:Act} {w:World}
variable {all:List Oper} {cl:List Nat} {ord:List Nat}
variable {kn rest nf:List Nat} {ents:List (Nat × Nat × G × AV)} {L:Array Bool}
theorem ACalls.mono {f:FuncId} {args:List AV} {R R':AV->Heap->Prop} (hk:∀ v h',R v h'->R' v h') (hf:ACalls P f args h R):ACalls P f args h R':=
 hf.post fun v h1 hR=>⟨v,h1,hk v h1 hR,VLe.refl _,fun _ _ hm=>hm,fun hn=>hn⟩
theorem opL_mono {K K':AV->Heap->Prop} {op:Op} (hk:∀ v h',K v h'->K' v h') (hq:opL P r h K op):opL P r h K' op:=by
 revert hq;unfold opL;repeat' split
 all_goals first
  | exact fun hh=>hh.elim
  | exact fun hh=>hk _ _ hh
  | exact fun hh b=>hk _ _ (hh b)
  | exact ACalls.mono hk
  | exact fun ⟨cs,h',h1,h2,h3⟩=>⟨cs,h',h1,h2,hk _ _ h3⟩
  | exact fun ⟨es,h1,h2⟩=>⟨es,h1,fun bs cl hb=>let ⟨h',a,b⟩:=h2 bs cl hb;⟨h',a,fun it=>hk _ _ (b it)⟩⟩
  | exact fun ⟨m,cl,seen,es,bs,h1,h2,h3,h4⟩=>⟨m,cl,seen,es,bs,h1,h2,fun hb=>hk _ _ (h3 hb),fun i b e a1 a2 a3=>let ⟨h',a,b⟩:=h4 i b e a1 a2 a3;⟨h',a,hk _ _ b⟩⟩
  | exact fun ⟨m,cl,seen,es,bs,h1,h2,i,b,e,s0,a1,a2,a3,a4⟩=>⟨m,cl,seen,es,bs,h1,h2,i,b,e,s0,a1,a2,a3,hk _ _ a4⟩
  | exact fun ⟨cs2,ys,h1,h2,cs,h',a1,a2,a3⟩=>⟨cs2,ys,h1,h2,cs,h',a1,a2,hk _ _ a3⟩
  | exact fun ⟨cs,ys,h1,h2,h3,h4⟩=>⟨cs,ys,h1,h2,h3,fun q'=>let ⟨h',a,b⟩:=h4 q';⟨h',a,hk _ _ b⟩⟩
  | exact fun ⟨s,pos,h1,h2,h3⟩=>⟨s,pos,h1,fun hb=>hk _ _ (h2 hb),fun hb=>let ⟨h',a,b⟩:=h3 hb;⟨h',a,hk _ _ b⟩⟩
  | exact fun hh=>⟨hh.1,fun b=>hk _ _ (hh.2 b)⟩
  | exact fun ⟨cs2,ys,h1,h2,h3,h4⟩=>⟨cs2,ys,h1,h2,h3,fun b=>hk _ _ (h4 b)⟩
  | exact fun ⟨cs,h1,h2,h3⟩=>⟨cs,h1,h2,fun b=>hk _ _ (h3 b)⟩
  | exact fun ⟨cs2,ys,h1,h2,h3,cs,h4,h5⟩=>⟨cs2,ys,h1,h2,h3,cs,h4,h5.elim (fun ⟨a,b,h',c,d⟩=>.inl ⟨a,b,h',c,hk _ _ d⟩) (fun ⟨a,b,c⟩=>.inr ⟨a,b,fun q=>hk _ _ (c q)⟩)⟩
  | exact fun ⟨cs,h1,h2,h3⟩=>⟨cs,h1,h2,fun b'=>let ⟨h',a,b⟩:=h3 b';⟨h',a,hk _ _ b⟩⟩
  | exact fun hh=>⟨hh.1,fun q'=>let ⟨h',h1,h2⟩:=hh.2 q';⟨h',h1,hk _ _ h2⟩⟩
theorem opO_mono {K K':AV->Heap->Prop} {cl:Call} (hk:∀ v h',K v h'->K' v h') (hq:opO P r h K cl):opO P r h K' cl:=by
 revert hq;unfold opO;repeat' split
 all_goals first
  | exact fun hh=>hh.elim
  | exact fun hh=>⟨hh.1,fun b=>hk _ _ (hh.2 b)⟩
theorem opB_mono {K K':AV->Heap->Prop} {t:TypeId} {m:Nat} {parts:Array (Nat × Operand)} (hk:∀ v h',K v h'->K' v h') (hq:opB P r h K t m parts):opB P r h K' t m parts:=by
 revert hq;unfold opB;repeat' split
 all_goals first
  | exact fun hh=>hh.elim
  | exact fun hh b=>hk _ _ (hh b)
theorem opX_mono {K K':AV->Heap->Prop} {own own2:List Nat} {d:Option Nat} {op:Op} (hk:∀ v h',K v h'->K' v h') (hq:opX P own own2 d r h K op):opX P own own2 d r h K' op:=by
 revert hq;unfold opX;split
 ·split
  ·exact opO_mono hk
  exact opL_mono hk
 ·split
  ·exact opB_mono hk
  exact opL_mono hk
 exact opL_mono hk
theorem filter_true {ents:List (Nat × Nat × G × AV)} (h:∀ x∈ents,L.getD x.1 false=true):entL L ents=ents:=by unfold entL;rw [List.filter_eq_self];exact h
theorem run_quiet {k:Nat} {Q:Exit->Act->World->Prop} {next:Act->World->Prop} (hi:DInv n P all cl ord r kn rest nf ents h L) (hs:DrawS all cl ord) (hk:k∈kn) (hkl:L.getD k false=false)
  (he:∀ o,all[k]?=some o->∀ e∈o.after.toList,Region.binds .any e=true->L.getD e.on false=true) (hc:Conc n X g0 (entR (entL L ents) r) h a w)
  (hn:∀ g' a' w',Conc n X g' (entR (entL (L.setIfInBounds k true) ents) r) h a' w'->Step X g0 h w g' h w'->next a' w'):wpOp P all.toArray Q k next a w:=by
 obtain ⟨o,g,v,Rk,h1,h2,h3,h4,h5⟩:=hi.fact k hk hkl;have hlt:k<L.size:=by rw [hi.lsize];exact (List.getElem?_eq_some_iff.1 h1).1
 have hclo:∀ j,Cl cl k j->L.getD j false=true:=by
  intro j hj
  have:=(clo_closed hs (S:=fun i=>L.getD i false=true\/i=k) (fun i hS=>by
   rcases hS with hS|rfl
   ·obtain ⟨o',ho',hh⟩:=hi.lclosed i hS;exact ⟨o',ho',fun e a b=>.inl (hh e a b)⟩
   exact ⟨o,h1,fun e a b=>.inl (he o h1 e a b)⟩) k (.inr rfl) j hj)
  rcases this.1 with h|rfl
  ·exact h
  exact absurd this.2 (Nat.lt_irrefl _)
 have hac:∀ j,Cl cl k j->Cl cl j k->False:=fun j a b=>by have:=(hi.kn_clo hs hk a).2;have:=(hi.kn_clo hs (hi.kn_clo hs hk a).1 b).2;omega
 have hlook:∀ t∈readsOf all o,lookR Rk t=lookR (entR (entL L ents) r) t:=by
  intro t ht;refine look_fun hi hs (h3 t ht) (look_of hi hs h1 (fun x hx=>(mem_entL.1 hx).1) ?_ ?_ t ht) hac
  ·intro j hj;exact ⟨hi.lsub j (hclo j hj),fun x hx hxj=>mem_entL.2 ⟨hx,by rw [hxj];exact hclo j hj⟩⟩
  intro x hx hcx;have hlx:=(mem_entL.1 hx).2;have:=(clo_closed hs (S:=fun i=>L.getD i false=true) (fun i hS=>hi.lclosed i hS) x.1 hlx k hcx).1;rw [hkl] at this;cases this
 refine entryQ_ok (entryQ_congr hlook h2) hc (by simpa using h1) ?_;intro g' u w' hcw hst hh1 hh2;have hless:=conc_listed (r:=r) hi hs hk h1 hkl hlt (g:=g) (v:=v) (fun d hd=>(h4 d hd).1);cases hd:o.dst with
 | none=>
   rw [hd] at hless;refine hn g' _ w' (Conc.less ?_ hless) hst;simpa [Act.put] using hc.step hcw hst
 | some d=>
   rw [hd] at hless;obtain ⟨q1,q2,q3,q4⟩:=h4 d hd;refine hn g' _ w' (Conc.less ?_ hless) hst;refine hc.put' hcw hst q2 q3 ?_ hh1 hh2;intro t gg vv hl e hee hed;rcases look_entR hl with ⟨x,hx,ex⟩|hl
   ·obtain ⟨hx,hlx⟩:=mem_entL.1 hx;have hcx:=hi.path x hx e (by rw [ex];exact hee) k o h1 (hed ▸ hd);have:=(clo_closed hs (S:=fun i=>L.getD i false=true) (fun i hS=>hi.lclosed i hS) x.1 hlx k hcx).1;rw [hkl] at this;cases this
   exact q4 t gg vv hl e hee hed
theorem draw_game {c:Cfg} {K:Regs->Heap->Prop} {Q:Exit->Act->World->Prop} (hs:DrawS all cl ord):∀ (fuel:Nat) (rest kn nf:List Nat) (ents:List (Nat × Nat × G × AV)) (h:Heap) (L:Array Bool) (g0:Gh) (a:Act) (w:World),
  DInv n P all cl ord r kn rest nf ents h L->regD P c n all cl K rest nf (entR ents r) h->Conc n X g0 (entR (entL L ents) r) h a w->unl all.length L<=fuel ->
  (∀ r' h' g' a' w',K r' h'->Conc n X g' r' h' a' w'->Step X g0 h w g' h' w'->Q .normal a' w')->wpAny P .any all.toArray Q fuel L a w:=by
 intro fuel;induction fuel with
 | zero=>
   intro rest kn nf ents h L g0 a w hi hr hc hu hf;have hall:=unl_zero (Nat.le_zero.1 hu)
   have hrest:rest=[]:=by
    cases rest with
    | nil=>rfl
    | cons x rest=>
      have hx:x∈ord:=by rw [hi.split];simp
      obtain ⟨hlt,_⟩:=hi.lt hs hx;have h1:=hi.lsub x (hall x (by rw [<- hi.lsize];exact hlt));have:=hs.p3;rw [hi.split,List.nodup_append] at this;exact absurd rfl (this.2.2 x h1 x (by simp))
   subst hrest
   have hE:entL L ents=ents:=filter_true fun x hx=>hall x.1 (by
    have hm:x.1∈ord:=by rw [hi.split];exact List.mem_append_left _ (hi.ent1 x hx).1
    rw [<- hi.lsize];exact (hi.lt hs hm).1)
   refine ⟨?_,?_⟩
   ·apply List.eq_nil_iff_forall_not_mem.2;intro i hm;rw [mem_ready] at hm;obtain ⟨h1,o,ho,_⟩:=hm;have hlt:i<all.length:=by have:=(Array.getElem?_eq_some_iff.1 ho).1;simpa using this
    have:=hall i hlt;rw [getD_true_false (by rw [hi.lsize];exact hlt),this] at h1;cases h1
   rw [hE] at hc;exact hf _ h g0 a w hr hc (Step.refl _ _ _ _)
 | succ fuel IH=>
   intro rest;induction rest with
   | nil=>
     intro kn nf ents h L g0 a w hi hr hc hu hf;refine ⟨fun hre=>?_,fun i hm=>?_⟩
     ·have hall:=ready_none hi hs hre;have hE:entL L ents=ents:=filter_true fun x hx=>hall x.1 (by rw [hi.split];exact List.mem_append_left _ (hi.ent1 x hx).1);rw [hE] at hc;exact hf _ h g0 a w hr hc (Step.refl _ _ _ _)
     obtain ⟨m1,o,ho,m2⟩:=mem_ready.1 hm;have ho':all[i]?=some o:=(by simpa using ho);have hlt:i<all.length:=(List.getElem?_eq_some_iff.1 ho').1;have hik:i∈kn:=by have:=hs.p2 i hlt;rw [hi.split] at this;simpa using this
     have hil:L.getD i false=false:=by rw [<- getD_true_false (by rw [hi.lsize];exact hlt)];exact m1
     have he:∀ e∈o.after.toList,Region.binds .any e=true->L.getD e.on false=true:=fun e he hb=>m2 e (by simpa using he) hb;refine run_quiet hi hs hik hil (fun o2 ho2=>by rw [ho'] at ho2;cases ho2;exact he) hc ?_;intro g' a' w' hc' hst
     exact IH [] kn nf ents h _ g' a' w' (hi.list hik ho' he) hr hc' (by have:=unl_set hlt hi.lsize.symm hil;omega)
      (fun r2 h2 g2 a2 w2 hK hc2 hst2=>hf r2 h2 g2 a2 w2 hK hc2 (hst.trans hc.cw.own hst2))
   | cons k rest ihr=>
     intro kn nf ents h L g0 a w hi hr hc hu hf;have hr0:=hr;have hko:k∈ord:=by rw [hi.split];simp
     have hnk:k ∉ kn:=by have:=hs.p3;rw [hi.split,List.nodup_append] at this;exact fun hm=>this.2.2 k hm k (by simp) rfl
     obtain ⟨hlt,o,ho⟩:=hi.lt hs hko
     have hkl:L.getD k false=false:=by
      cases hb:L.getD k false with
      | false=>rfl
      | true=>exact absurd (hi.lsub k hb) hnk
     -- what k reads,in the registers of all that were gone through
     have hedge:∀ e∈o.after.toList,Region.binds .any e=true->e.on∈kn:=by obtain ⟨o2,ho2,hh⟩:=hs.p4 kn k rest hi.split;rw [ho] at ho2;cases ho2;exact hh
     have hclk:∀ j,Cl cl k j->j∈kn:=by
      intro j hj
      have:=(clo_closed hs (S:=fun i=>i∈kn\/i=k) (fun i hS=>by
       rcases hS with hS|rfl
       ·obtain ⟨o',ho',hh⟩:=hi.kn_closed hs i hS;exact ⟨o',ho',fun e a b=>.inl (hh e a b)⟩
       exact ⟨o,ho,fun e a b=>.inl (hedge e a b)⟩) k (.inr rfl) j hj)
      rcases this.1 with h|rfl
      ·exact h
      exact absurd this.2 (Nat.lt_irrefl _)
     have hlook:∀ t∈readsOf all o,Look all cl ents r k t (lookR (entR ents r) t):=by intro t ht;refine look_of hi hs ho (fun x hx=>hx) (fun j hj=>⟨hclk j hj,fun x hx _=>hx⟩) ?_ t ht;intro x hx hcx;exact hnk (hi.kn_clo hs (hi.ent1 x hx).1 hcx).1
     unfold regD at hr;rw [ho] at hr;simp only at hr;split at hr
     · -- a loud one
      split at hr<;>try contradiction
      rename_i hgd;split at hr<;>try contradiction
      rename_i hlate;split at hr<;>try contradiction
      rename_i hsafe;have hlate:=lateOK_ok hlate;refine ⟨fun hre=>?_,fun i hm=>?_⟩
      ·have:=ready_none hi hs hre k hko;rw [hkl] at this;cases this
      obtain ⟨m1,oi,hoi,m2⟩:=mem_ready.1 hm;have hoi':all[i]?=some oi:=(by simpa using hoi);have hlti:i<all.length:=(List.getElem?_eq_some_iff.1 hoi').1;have hil:L.getD i false=false:=by rw [<- getD_true_false (by rw [hi.lsize];exact hlti)];exact m1
      have he:∀ e∈oi.after.toList,Region.binds .any e=true->L.getD e.on false=true:=fun e he hb=>m2 e (by simpa using he) hb
      have hclo:∀ j,Cl cl i j->L.getD j false=true:=by
       intro j hj
       have:=(clo_closed hs (S:=fun x=>L.getD x false=true\/x=i) (fun x hS=>by
        rcases hS with hS|rfl
        ·obtain ⟨o',ho',hh⟩:=hi.lclosed x hS;exact ⟨o',ho',fun e a b=>.inl (hh e a b)⟩
        exact ⟨oi,hoi',fun e a b=>.inl (he e a b)⟩) i (.inr rfl) j hj)
       rcases this.1 with h|rfl
       ·exact h
       exact absurd this.2 (Nat.lt_irrefl _)
      have hin:i∈kn\/i=k\/i∈rest:=by have:=hs.p2 i hlti;rw [hi.split] at this;simpa using this
      rcases hin with hik|rfl|hir
      ·refine run_quiet hi hs hik hil (fun o2 ho2=>by rw [hoi'] at ho2;cases ho2;exact he) hc ?_;intro g' a' w' hc' hst
       exact IH (k::rest) kn nf ents h _ g' a' w' (hi.list hik hoi' he) hr0 hc' (by have:=unl_set hlti hi.lsize.symm hil;omega)
        (fun r2 h2 g2 a2 w2 hK hc2 hst2=>hf r2 h2 g2 a2 w2 hK hc2 (hst.trans hc.cw.own hst2))
      ·rw [ho] at hoi';cases hoi'
       unfold wpOp;simp only [hoi,wanted_none hgd,if_true];left;have hac:∀ j,Cl cl i j->Cl cl j i->False:=fun j a b=>hnk (hi.kn_clo hs (hclk j a) b).1
       have hlookL:∀ t∈readsX o.op.operands.toList,lookR (entR ents r) t=lookR (entR (entL L ents) r) t:=by
        intro t ht;have ht':t∈readsOf all o:=by unfold readsOf;exact List.mem_append_right _ ht
        refine look_fun hi hs (hlook t ht') (look_of hi hs ho (fun x hx=>(mem_entL.1 hx).1) ?_ ?_ t ht') hac
        ·intro j hj;exact ⟨hclk j hj,fun x hx hxj=>mem_entL.2 ⟨hx,by rw [hxj];exact hclo j hj⟩⟩
        intro x hx hcx;exact hnk (hi.kn_clo hs (hi.ent1 x (mem_entL.1 hx).1).1 hcx).1
       -- the heap behind it
       have hr2:opX P c.own c.lc o.dst (entR (entL L ents) r) h (fun v h'=>(setP n o.dst [] v (entR ents r) fun r'=>regD P c n all cl K rest nf r' h')/\(allocLike o.op=true->∃ x,h'=x::h)/\(calm (entR ents r) o.op=true->Kept h h')) o.op:=by
        have hr0:opX P c.own c.lc o.dst (entR ents r) h (fun v h'=>(setP n o.dst [] v (entR ents r) fun r'=>regD P c n all cl K rest nf r' h')/\(calm (entR ents r) o.op=true->Kept h h')) o.op:=by
         by_cases hcm:calm (entR ents r) o.op=true
         ·exact opX_mono (fun v h' hh=>⟨hh.1,fun _=>hh.2⟩) (opX_calm hcm hr)
         exact opX_mono (fun v h' hh=>⟨hh,fun hy=>absurd hy hcm⟩) hr
        have hr1:=opX_congr hlookL hr0;by_cases hal:allocLike o.op=true
        ·have:=opX_alloc hal hr1;exact opX_mono (fun v h' hh=>⟨hh.1.1,fun _=>hh.2,hh.1.2⟩) this
        exact opX_mono (fun v h' hh=>⟨hh.1,fun hy=>absurd hy hal,hh.2⟩) hr1
       refine opX_ok hr2 hc ?_;rintro v h' g' u w' ⟨hset,hx,hkp⟩ hcw hrep hst
       have hstab:∀ k'∈kn,(L.setIfInBounds i true).getD k' false=false->∃ o g v Rk,all[k']?=some o/\entryQ P all Rk h' (fun g' v'=>g'=g/\v'=v) o /\
         (∀ t∈readsOf all o,Look all cl ents r k' t (lookR Rk t)) /\
         (∀ d,o.dst=some d->(k',d,g,v)∈ents/\d<n/\(∀ e∈g,e.1≠d)/\∀ t gg v,lookR r t=some (gg,v)->∀ e∈gg,e.1≠d) /\
         (k' ∉ nf->∀ h',entryQ P all Rk h' (fun g' v'=>g'=g/\v'=v) o):=by
        intro k' hk' hl'
        have hl:L.getD k' false=false:=by
         cases hb:L.getD k' false with
         | false=>rfl
         | true=>rw [getD_set_true hb] at hl';cases hl'
        obtain ⟨o',g2,v2,Rk,q1,q2,q3,q4,q5⟩:=hi.fact k' hk' hl;refine ⟨o',g2,v2,Rk,q1,?_,q3,q4,q5⟩;by_cases hal:allocLike o.op=true
        ·obtain ⟨x,rfl⟩:=hx hal;exact entryQ_heap (fun g K hh=>opQ_more hh) q2
        simp only [hal] at hsafe;by_cases hcm:calm (entR ents r) o.op=true
        ·simp only [hcm] at hsafe;by_cases hnf:k'∈nf
         ·rcases nfOKc_ok hsafe k' hnf with h1|⟨o2,h1,h2⟩
          ·have:=hclo k' h1;rw [hl] at this;cases this
          rw [q1] at h1;cases h1
          exact entryQ_heap (fun g K hh=>opQ_kept h2 (hkp hcm) hh) q2
         exact q5 hnf h'
        simp only [hcm] at hsafe;by_cases hnf:k'∈nf
        ·have:=hclo k' (nfOK_ok hsafe k' hnf);rw [hl] at this;cases this
        exact q5 hnf h'
       have hown0:∀ {p:Prop},(L.setIfInBounds i true).getD i false=false->p:=by intro p hh;have:(L.setIfInBounds i true).getD i false=true:=(by simp [hlt]);rw [this] at hh;cases hh
       have hf':∀ r2 h2 g2 a2 w2,K r2 h2->Conc n X g2 r2 h2 a2 w2->Step X g' h' w' g2 h2 w2->Q .normal a2 w2:=
        fun r2 h2 g2 a2 w2 hK hc2 hst2=>hf r2 h2 g2 a2 w2 hK hc2 (hst.trans hc.cw.own hst2)
       have hun:unl all.length (L.setIfInBounds i true)<=fuel:=by have:=unl_set hlti hi.lsize.symm hil;omega
       cases hd:o.dst with
       | none=>
         rw [hd] at hset;have hi':=hi.enter (n:=n) (P:=P) (g:=[]) (v:=v) (ents':=ents) (nf':=nf) (h':=h') (L':=L.setIfInBounds i true) hs ho (by rw [hd]) (by simp) (.inr ⟨rfl,he⟩) hstab hown0;refine IH rest _ nf ents h' _ g' _ w' hi' hset ?_ hun hf';have hE:entL (L.setIfInBounds i true) ents=entL L ents:=by unfold entL;refine List.filter_congr fun x hx=>?_;exact getD_set_ne false (fun e=>hnk (e ▸ (hi.ent1 x hx).1))
         rw [hE];simpa [Act.put] using hc.step hcw hst
       | some d=>
         rw [hd] at hset;unfold setP at hset;simp only at hset;split at hset<;>try contradiction
         rename_i hdn;rw [Nat.blt_eq] at hdn;split at hset<;>try contradiction
         rename_i hni;have hnr:=notIn_entR (notIn_cons hni).2;have hi':=hi.enter (n:=n) (P:=P) (g:=[]) (v:=v) (ents':=(i,d,[],v)::ents) (nf':=nf) (h':=h') (L':=L.setIfInBounds i true) hs ho (by rw [hd]) (by simp) (.inr ⟨rfl,he⟩) hstab hown0;refine IH rest _ nf ((i,d,[],v)::ents) h' _ g' _ w' hi' hset ?_ hun hf';have hE:entL (L.setIfInBounds i true) ((i,d,[],v)::ents)=(i,d,[],v)::entL L ents:=by unfold entL;have h1:(L.setIfInBounds i true).getD i false=true:=(by simp [hlt]);rw [List.filter_cons,if_pos h1];congr 1;refine List.filter_congr fun x hx=>?_;exact getD_set_ne false (fun e=>hnk (e ▸ (hi.ent1 x hx).1))
         rw [hE];show Conc n X g' ((d,[],v)::entR (entL L ents) r) h' (a.put (some d) u) w';refine hc.put' hcw hst hdn (by simp) ?_ (fun _=>⟨by simp,hrep⟩) (fun hh=>absurd (fun e he=>by cases he) hh);intro t gg vv hl e hee hed;rcases look_entR hl with ⟨x,hx,ex⟩|hl
         ·obtain ⟨hx,hlx⟩:=mem_entL.1 hx;have hcx:=hi.path x hx e (by rw [ex];exact hee) i o ho (hed ▸ hd);exact hnk (hi.kn_clo hs (hi.ent1 x hx).1 hcx).1
         exact notIn_look hnr hl e hee hed
      have:=hclo k (hlate i hir);rw [hkl] at this;cases this
     -- a quiet one: gone through,not yet carried out
     obtain ⟨g,v,hKv,hE⟩:=entryQ_val hr;split at hKv<;>try contradiction
     rename_i hpath;have hpath:=pathOK_ok hpath;obtain ⟨nf2,hnf2⟩:∃ nf2,nf2=(match hfree (entR ents r) g o.op with|true=>nf|false=>k::nf):=⟨_,rfl⟩
     have hfr0:k ∉ nf2->∀ h',entryQ P all (entR ents r) h' (fun g' v'=>g'=g/\v'=v) o:=by
      intro hk' h';rw [hnf2] at hk';split at hk'
      ·rename_i hfr;exact entryQ_free hfr hE
      simp at hk'
     have hinc:∀ x∈nf,x∈nf2:=by
      intro x hx;rw [hnf2];split
      ·exact hx
      exact List.mem_cons_of_mem _ hx
     have hold:∀ k'∈kn,L.getD k' false=false->∃ o g v Rk,all[k']?=some o/\entryQ P all Rk h (fun g' v'=>g'=g/\v'=v) o /\
         (∀ t∈readsOf all o,Look all cl ents r k' t (lookR Rk t)) /\
         (∀ d,o.dst=some d->(k',d,g,v)∈ents/\d<n/\(∀ e∈g,e.1≠d)/\∀ t gg v,lookR r t=some (gg,v)->∀ e∈gg,e.1≠d) /\
         (k' ∉ nf2->∀ h',entryQ P all Rk h' (fun g' v'=>g'=g/\v'=v) o):=by
      intro k' hk' hl';obtain ⟨o',g2,v2,Rk,q1,q2,q3,q4,q5⟩:=hi.fact k' hk' hl';exact ⟨o',g2,v2,Rk,q1,q2,q3,q4,fun hh=>q5 fun hm=>hh (hinc _ hm)⟩
     cases hd:o.dst with
     | none=>
       rw [hd] at hKv
       have hi':=hi.enter (n:=n) (P:=P) (g:=g) (v:=v) (ents':=ents) (nf':=nf2) (h':=h) (L':=L) hs ho (by rw [hd]) hpath (.inl rfl) hold
        (fun _=>⟨o,g,v,entR ents r,ho,hE,hlook,fun d hd'=>(by rw [hd] at hd';cases hd'),hfr0⟩)
       exact ihr _ _ ents h L g0 a w hi' (by rw [hnf2];exact hKv) hc hu hf
     | some d=>
       rw [hd] at hKv;unfold setP at hKv;simp only at hKv;split at hKv<;>try contradiction
       rename_i hdn;rw [Nat.blt_eq] at hdn;split at hKv<;>try contradiction
       rename_i hni;obtain ⟨hn1,hn2⟩:=notIn_cons hni;have hnr:=notIn_entR hn2
       have hi':=hi.enter (n:=n) (P:=P) (g:=g) (v:=v) (ents':=(k,d,g,v)::ents) (nf':=nf2) (h':=h) (L':=L) hs ho (by rw [hd]) hpath (.inl rfl) hold
        (fun _=>⟨o,g,v,entR ents r,ho,hE,fun t ht=>(hlook t ht).more (fun x hx=>List.mem_cons_of_mem _ hx),
          fun d' hd'=>(by rw [hd] at hd';cases hd';exact ⟨List.mem_cons_self,hdn,hn1,fun t gg vv hl=>notIn_look hnr hl⟩),hfr0⟩)
       refine ihr _ _ ((k,d,g,v)::ents) h L g0 a w hi' (by rw [hnf2];exact hKv) ?_ hu hf;have hE:entL L ((k,d,g,v)::ents)=entL L ents:=by unfold entL;rw [List.filter_cons,if_neg (by simp only [hkl];exact Bool.false_ne_true)]
       rw [hE];exact hc
end Go.Abs
/-
 The abstract layer,part R: the evaluator says what the code does;loops;functions.
-/
namespace Go.Abs
open Go
variable {P:Program} {n:Nat} {X:Nat->Prop} {g0:Gh} {r:Regs} {h:Heap} {a:Act} {w:World}
theorem frz_one {l1 l2:Heap} {b d:Nat} {cs:List AV} (hc:Conc n X g0 r (l1++(b,.vec cs)::l2) a w) (hl:lookR r d=some ([],.optr b 0)) :
  Conc n X g0 ((d,[],.iptr cs)::r) (l1++l2) a w/\Step X g0 (l1++(b,.vec cs)::l2) w g0 (l1++l2) w:=by
 have hg0:holdsC a []:=fun e he=>by cases he
 obtain ⟨s1,s2⟩:=hc.cw.sub (h':=l1++l2) (by
   intro k o hm;simp only [List.mem_append,List.mem_cons] at hm ⊢;rcases hm with h|h
   ·exact .inl h
   ·exact .inr (.inr h)) (by
   have:=hc.cw.nodup;rw [keys_app] at this;simp only [keys,List.map_append,List.nodup_append,List.nodup_cons,List.mem_cons] at this ⊢;exact ⟨this.1,this.2.1.2,fun x hx y hy=>this.2.2 x hx y (.inr hy)⟩)
 refine ⟨⟨s1,?_,hc.defers,hc.size⟩,s2⟩;have hc2:=hc.step s1 s2;have hnm:=hc.cw.notmem;have hsep:=hc.cw.sep b (by rw [keys_mem];exact .inl rfl);have hob:=hc.cw.obj b (.vec cs) (by simp);intro t gg v' hl';rw [lookR_cons] at hl';split at hl'
 ·rename_i ht;subst ht;cases hl'
  refine ⟨fun _=>⟨by simp,?_⟩,fun hh=>absurd hg0 hh⟩;obtain ⟨_,u,hu1,hu2⟩:=(hc.regs _ _ _ hl).1 hg0;rw [Rep] at hu2;obtain ⟨p,q1,q2,q3⟩:=hu2;refine ⟨u,hu1,?_⟩;rw [Rep];refine ⟨p.block,p.off+0,q3,?_⟩;obtain ⟨pp,cc2,t2,h1,h2,h3,h4,h5,h6⟩:=hob;simp only at h1 h3 h4 q1;rw [q1] at h1;cases h1
  have key:∀ (l':List AV) (o:Nat),(∀ i x,l'[i]?=some x->∃ u,cc2[p.off+(o+i)]?=some u/\u.oneCell'=true/\Rep ⟨g0,live X (l1++(b,.vec cs)::l2),w⟩ x u) ->
    RepCs ⟨g0,live X (l1++l2),w⟩ l' p.block (p.off+o):=by
   intro l';induction l' with
   | nil=>intro o _;simp [RepCs]
   | cons x l' ih=>
     intro o hh;simp only [RepCs];obtain ⟨u,e1,e2,e3⟩:=hh 0 x (by simp);refine ⟨⟨u,?_,e2,?_,Rep.mono (Step.le s2) _ _ e3⟩,?_⟩
     ·rw [cell_of_row _ p.block _ cc2 t2 _ h4];simpa using e1
     ·intro k s hk hlv;simp only at hk;rw [h3] at hk;cases hk
      rcases hlv with hx|hk
      ·exact absurd hx hsep
      exact absurd hk hnm
     rw [show p.off+o+1=p.off+(o+1) from rfl];refine ih (o+1) (fun i x hx=>?_);have:=hh (i+1) x (by simpa using hx);rwa [show o+(i+1)=o+1+i from by omega] at this
  exact key cs 0 (fun i x hx=>by simpa using h6 i x hx)
 exact hc2.regs t gg v' hl'
theorem frzP_ok {K:Regs->Heap->Prop}:∀ {ds:List Nat} {r:Regs} {h:Heap} {w:World},frzP K ds r h->Conc n X g0 r h a w->∃ r' h',K r' h'/\Conc n X g0 r' h' a w/\Step X g0 h w g0 h' w
 | [],r,h,w,hk,hc=>⟨r,h,hk,hc,Step.refl _ _ _ _⟩
 | d::ds,r,h,w,hk,hc=>by
   unfold frzP at hk;split at hk<;>try contradiction
   rename_i b hl;obtain ⟨cs,h',hu,hk⟩:=hk;obtain ⟨l1,l2,rfl,rfl⟩:=Rem.split hu;obtain ⟨c1,s1⟩:=frz_one hc hl;obtain ⟨r2,h2,k1,k2,k3⟩:=frzP_ok hk c1;exact ⟨r2,h2,k1,k2,s1.trans hc.cw.own k3⟩
theorem cw_ok {c:Cfg} (hm:P.follows .mixedOrders=true):∀ (code:Code) {Q:Ex->Regs->Heap->Prop} {r:Regs} {h:Heap},cw P c n X code Q r h->Holds P n X code Q r h:=by
 intro code;induction code with
 | skip=>intro Q r h hh;refine ⟨fun g a w hc=>?_⟩;exact wp_skip ⟨.normal,g,r,h,rfl,hh,hc,Step.refl _ _ _ _⟩
 | region id ops draw=>
   intro Q r h hh;cases draw with
   | true=>
     have hh:(match findOrd c.ords id with
      | some (ord,fz)=>drawOK ops.toList ord=true /\
         regD P c n ops.toList (clos ops.toList []) (fun r' h'=>frzP (fun r'' h''=>normK r'' (fun r3=>Q .normal r3 h'') c.keep) fz r' h') ord [] r h
      | none=>Holds P n X (.region id ops true) Q r h):=hh
     split at hh
     ·rename_i ord fz hfo;obtain ⟨hok,hreg⟩:=hh;refine ⟨fun g a w hc=>?_⟩;refine wp_region_any hm ?_;obtain ⟨dc,ds⟩:=hc.cw.drew;have hs:=drawS hok;have hc':Conc n X g r h a w.drew:=hc.step dc ds
      have hi:DInv n P ops.toList (clos ops.toList []) ord r [] ord [] [] h (Array.replicate ops.size false):=by
       have hrep:∀ i,(Array.replicate ops.size false).getD i false=false:=by intro i;by_cases hi:i<ops.size<;>simp [hi]
       refine ⟨rfl,by simp,?_,?_,by simp,by simp,by simp,by simp,by simp⟩
       ·intro i hL;rw [hrep i] at hL;cases hL
       intro i hL;rw [hrep i] at hL;cases hL
      have:=draw_game (n:=n) (X:=X) (r:=r) (c:=c) (Q:=fun e a' w'=>∃ ex g' r' h',e=Ex.toExit ex/\Q ex r' h'/\Conc n X g' r' h' a' w'/\Step X g h w g' h' w') hs ops.size ord [] [] [] h
       (Array.replicate ops.size false) g a w.drew hi hreg hc' (by unfold unl;exact Nat.le_trans (List.length_filter_le _ _) (by simp)) (by
         intro r' h' g' a' w' hK hc2 hst;obtain ⟨r2,h2,hK,hc3,hst3⟩:=frzP_ok hK hc2;obtain ⟨r3,hK,hl⟩:=normK_ok (k:=fun r3=>Q .normal r3 h2) hK;exact ⟨.normal,g',r3,h2,rfl,hK,hc3.less hl,ds.trans hc.cw.own (hst.trans hc'.cw.own hst3)⟩)
      exact this
     exact hh
   | false=>
     refine ⟨fun g a w hc=>?_⟩;have hh:regP P c n ops.toList (Q .normal) ops.toList r h:=hh;refine wp_region ?_
     have:=regP_ok (Q:=fun e a' w'=>∃ ex g' r' h',e=Ex.toExit ex/\Q ex r' h'/\Conc n X g' r' h' a' w'/\Step X g h w g' h' w') ops.toList 0 r h g a w (fun j=>by simp) hh hc
      (fun r' h' g' a' w' hK hc' hst=>⟨.normal,g',r',h',rfl,hK,hc',hst⟩)
     simpa [List.range_eq_range'] using this
 | seq x y ihx ihy=>
   intro Q r h hh;refine ⟨fun g a w hc=>?_⟩;refine wp_seq (wp_mono ((ihx hh).holds g a w hc) ?_);rintro e a' w' ⟨ex,g',r',h',rfl,hQ,hc',hst⟩;cases ex with
   | normal=>
     refine wp_mono ((ihy hQ).holds g' a' w' hc') ?_;rintro e a2 w2 ⟨ex,g2,r2,h2,rfl,hQ,hc2,hst2⟩;exact ⟨ex,g2,r2,h2,rfl,hQ,hc2,hst.trans hc.cw.own hst2⟩
   | exit i=>exact ⟨.exit i,g',r',h',rfl,hQ,hc',hst⟩
   | ret=>exact ⟨.ret,g',r',h',rfl,hQ,hc',hst⟩
   | pan v=>exact ⟨.pan v,g',r',h',rfl,hQ,hc',hst⟩
 | cond x t f iht ihf=>
   intro Q r h hh;refine ⟨fun g a w hc=>?_⟩;simp only [cw] at hh;split at hh<;>try contradiction
   rename_i b hx;have hr:=hc.opnd (g:=[]) (fun e he=>by cases he) hx;rw [Rep] at hr;refine wp_cond_split hr (fun hb=>(iht (hh.1 hb)).holds g a w hc) (fun hb=>(ihf (hh.2 hb)).holds g a w hc)
 | block id x ih=>
   intro Q r h hh;refine ⟨fun g a w hc=>?_⟩;refine wp_block (wp_mono ((ih hh).holds g a w hc) ?_);rintro e a' w' ⟨ex,g',r',h',rfl,hQ,hc',hst⟩;cases ex with
   | normal=>exact ⟨.normal,g',r',h',rfl,hQ,hc',hst⟩
   | exit i=>
     simp only at hQ;simp only [Ex.toExit,Exit.inBlock];split at hQ
     ·rename_i hi;rw [if_pos (Nat.eq_of_beq_eq_true hi)];exact ⟨.normal,g',r',h',rfl,hQ,hc',hst⟩
     rename_i hi;rw [if_neg (fun e=>by subst e;rw [Nat.beq_refl] at hi;cases hi)];exact ⟨.exit i,g',r',h',rfl,hQ,hc',hst⟩
   | ret=>exact ⟨.ret,g',r',h',rfl,hQ,hc',hst⟩
   | pan v=>exact ⟨.pan v,g',r',h',rfl,hQ,hc',hst⟩
 | loop x ih=>intro Q r h hh;exact hh
 | exit i=>intro Q r h hh;refine ⟨fun g a w hc=>?_⟩;exact wp_exit ⟨.exit i,g,r,h,rfl,hh,hc,Step.refl _ _ _ _⟩
 | ret=>intro Q r h hh;refine ⟨fun g a w hc=>?_⟩;exact wp_ret ⟨.ret,g,r,h,rfl,hh,hc,Step.refl _ _ _ _⟩
 | _=>intro Q r h hh;exact hh.elim
def retok:List (Nat × Nat)->Regs->Heap->(Regs->Heap->Prop)->Prop
 | [],r,h,K=>K r h
 | (t,k)::l,r,h,K=>match lookR r t with
   | some ([],.nilS)=>0<k/\∀ q,retok l ((t,[],.sl k (some q) [])::r) ((q,.tok)::h) K
   | _=>retok l r h K
theorem retok_ok {K:Regs->Heap->Prop}:∀ {l:List (Nat × Nat)} {r:Regs} {h:Heap} {w:World},retok l r h K->Conc n X g0 r h a w->∃ r' h',K r' h'/\Conc n X g0 r' h' a w/\Step X g0 h w g0 h' w
 | [],r,h,w,hk,hc=>⟨r,h,hk,hc,Step.refl _ _ _ _⟩
 | (t,k)::l,r,h,w,hk,hc=>by
   have hg0:holdsC a []:=fun e he=>by cases he
   unfold retok at hk;split at hk
   ·rename_i hl;obtain ⟨hk0,hk⟩:=hk;obtain ⟨q,c1,s1⟩:=hc.cw.newKey;have hc1:=hc.step c1 s1
    have hc2:Conc n X g0 ((t,[],.sl k (some q) [])::r) ((q,.tok)::h) a w:=by
     refine ⟨c1,fun t' gg v' hl'=>?_,hc.defers,hc.size⟩;rw [lookR_cons] at hl';split at hl'
     ·rename_i ht;subst ht;cases hl'
      refine ⟨fun _=>⟨by simp,?_⟩,fun hh=>absurd hg0 hh⟩;obtain ⟨_,u,hu1,hu2⟩:=(hc.regs _ _ _ hl).1 hg0;refine ⟨u,hu1,?_⟩;rw [Rep] at hu2;subst hu2;simp only [Rep];exact ⟨none,0,by simp,by simp,by simp,hk0,by simp,by simp,by simp,fun _ _=>.inl rfl⟩
     exact hc1.regs t' gg v' hl'
    obtain ⟨r2,h2,k1,k2,k3⟩:=retok_ok (hk q) hc2;exact ⟨r2,h2,k1,k2,s1.trans hc.cw.own k3⟩
   exact retok_ok hk hc
def atHead (ks:List Nat) (ts:List (Nat × Nat)) (J:Regs->Heap->Prop) (r:Regs) (h:Heap):Prop:=
 retok ts r h fun r' h'=>normK r' (fun r''=>J r'' h') ks
theorem atHead_ok {ks:List Nat} {ts:List (Nat × Nat)} {J:Regs->Heap->Prop} (hh:atHead ks ts J r h) (hc:Conc n X g0 r h a w) :
  ∃ r' h',J r' h'/\Conc n X g0 r' h' a w/\Step X g0 h w g0 h' w:=by
 obtain ⟨r1,h1,k1,c1,s1⟩:=retok_ok hh hc;obtain ⟨r2,k2,hl⟩:=normK_ok (k:=fun r''=>J r'' h1) k1;exact ⟨r2,h1,k2,c1.less hl,s1⟩
theorem least_of {S:Nat->Prop} (h:∃ m,S m):∃ m,S m/\∀ k,S k->m<=k:=by
 obtain ⟨m,hm⟩:=h;induction m using Nat.strongRecOn with
 | _ m ih=>
   by_cases hk:∃ k,k<m/\S k
   ·obtain ⟨k,hlt,hS⟩:=hk;exact ih k hlt hS
   exact ⟨m,hm,fun k hS=>Nat.le_of_not_lt fun hlt=>hk ⟨k,hlt,hS⟩⟩
theorem holds_loop (ks:List Nat) (ts:List (Nat × Nat)) (J:Nat->Regs->Heap->Prop) {body:Code} {Q:Ex->Regs->Heap->Prop} (h0:atHead ks ts (fun r h=>∃ m,J m r h) r h)
  (hb:∀ m r h,J m r h->Holds P n X body (fun e r' h'=>match e with
    | .normal=>atHead ks ts (fun r h=>∃ m',m'<m/\J m' r h) r' h'
    | e=>Q e r' h') r h):Holds P n X (.loop body) Q r h:=by
 refine ⟨fun g a w hc=>?_⟩
 classical
 let S:Nat->Act->World->Prop:=fun m a' w'=>∃ g' r' h',J m r' h'/\Conc n X g' r' h' a' w'/\Step X g h w g' h' w'
 let I:Act->World->Prop:=fun a' w'=>∃ m,S m a' w'
 let μ:Act->World->Nat:=fun a' w'=>if hI:∃ m,S m a' w' then Classical.choose (least_of hI) else 0
 have hI0:I a w:=by obtain ⟨r',h',⟨m,hJ⟩,hc',hst⟩:=atHead_ok h0 hc;exact ⟨m,g,r',h',hJ,hc',hst⟩
 refine wp_loop I μ hI0 ?_;intro a1 w1 hI1;have hμ:μ a1 w1=Classical.choose (least_of hI1):=by simp only [μ];rw [dif_pos hI1]
 obtain ⟨g1,r1,h1,hJ,hc1,hst1⟩:=(Classical.choose_spec (least_of hI1)).1;rw [<- hμ] at hJ;refine wp_mono ((hb _ r1 h1 hJ).holds g1 a1 w1 hc1) ?_;rintro e a2 w2 ⟨ex,g2,r2,h2,rfl,hQ,hc2,hst2⟩;have hst12:=hst1.trans hc.cw.own hst2;cases ex with
 | normal=>
   obtain ⟨r3,h3,⟨m',hlt,hJ'⟩,hc3,hst3⟩:=atHead_ok hQ hc2;have hS:S m' a2 w2:=⟨g2,r3,h3,hJ',hc3,hst12.trans hc.cw.own hst3⟩;refine ⟨⟨m',hS⟩,?_⟩;have hI2:∃ m,S m a2 w2:=⟨m',hS⟩;have:μ a2 w2<=m':=by simp only [μ];rw [dif_pos hI2];exact (Classical.choose_spec (least_of hI2)).2 m' hS
   omega
 | exit i=>exact ⟨.exit i,g2,r2,h2,rfl,hQ,hc2,hst12⟩
 | ret=>exact ⟨.ret,g2,r2,h2,rfl,hQ,hc2,hst12⟩
 | pan v=>exact ⟨.pan v,g2,r2,h2,rfl,hQ,hc2,hst12⟩
def argRegs:Nat->List AV->Regs
 | _,[]=>[]
 | i,x::xs=>(i,[],x)::argRegs (i+1) xs
def resK (P:Program) (r:Regs) (h:Heap):List ResultVar->(List AV->Prop)->Prop
 | [],K=>K []
 | .tmp t::l,K=>match opnd r [] (.tmp t) with
   | some v=>resK P r h l fun vs=>K (v::vs)
   | none=>False
 | .cell b t::l,K=>match opnd r [] (.tmp b) with
   | some (.iptr cs)=>loadI P t cs fun v=>resK P r h l fun vs=>K (v::vs)
   | some (.optr b o)=>∃ cs l',(b,Ob.vec cs)∈h/\dropN o cs=some l'/\loadI P t l' fun v=>resK P r h l fun vs=>K (v::vs)
   | _=>False
def resV (R:AV->Heap->Prop) (h:Heap):List AV->Prop
 | [v]=>R v h
 | vs=>R (.tup vs) h
def resP (P:Program) (fn:Func) (r:Regs) (h:Heap) (R:AV->Heap->Prop):Prop:=resK P r h fn.results.toList (resV R h)
end Go.Abs
/-
 The abstract layer,part S: functions.
-/
namespace Go.Abs
open Go
variable {P:Program} {n:Nat} {X:Nat->Prop} {g0:Gh} {r:Regs} {h:Heap} {a:Act} {w:World}
theorem resK_ok (hc:Conc n X g0 r h a w):∀ {l:List ResultVar} {K:List AV->Prop},resK P r h l K ->
  ∃ (vs:List AV) (us:List Value),K vs/\(l.mapM (m:=Sem) fun|.tmp t=>pure (a.tmps.getD t undef)|.cell b t=>do loadVar t (<- asAddr (a.tmps.getD b undef))).run P w=.ok us w/\RepVs ⟨g0,live X h,w⟩ vs us
 | [],K,hr=>⟨[],[],hr,by simp,by simp [RepVs]⟩
 | .tmp t::l,K,hr=>by
   unfold resK at hr;split at hr<;>try contradiction
   rename_i v hv;obtain ⟨vs,us,hK,h1,h2⟩:=resK_ok hc hr;have hrep:=hc.opnd (g:=[]) (fun e he=>by cases he) hv;refine ⟨v::vs,a.tmps.getD t undef::us,hK,?_,?_⟩
   ·simp only [List.mapM_cons,Sem.run_bind,Sem.run_pure,Result.andThen,h1]
   simp only [RepVs];exact ⟨_,_,rfl,by simpa [Act.eval] using hrep,h2⟩
 | .cell b t::l,K,hr=>by
   unfold resK at hr;split at hr<;>try contradiction
   all_goals
    rename_i hb;have hrep:=hc.opnd (g:=[]) (fun e he=>by cases he) hb;obtain ⟨z,s,hz,h2,h3⟩:=load_ok (t:=t) hc.cw hrep hr;obtain ⟨vs,us,hK,h1,h4⟩:=resK_ok hc hz
    have hp:∃ ad,a.eval (.tmp b)=.pointer (some ad):=by
     rw [Rep] at hrep
     first
      | (obtain ⟨x,y,e,_⟩:=hrep;exact ⟨_,e⟩)
      | (obtain ⟨x,_,_,e⟩:=hrep;exact ⟨_,e⟩)
    obtain ⟨ad,hp⟩:=hp;rw [hp] at h3;have hp':a.tmps.getD b undef=.pointer (some ad):=(by simpa [Act.eval] using hp);have has:(asAddr (.pointer (some ad))).run P w=.ok ad w:=(by simp [asAddr]);have h3':(loadVar t ad).run P w=.ok s w:=(by simpa [Instr.loadAt,Instr.sureAddr] using h3);refine ⟨z::vs,s::us,hK,?_,?_⟩
    ·simp only [List.mapM_cons,Sem.run_bind,Sem.run_pure,hp',has,Result.andThen,h3',h1]
    simp only [RepVs];exact ⟨_,_,rfl,h2,h4⟩
theorem resP_ok {fn:Func} {R:AV->Heap->Prop} (hc:Conc n X g0 r h a w) (hr:resP P fn r h R):∃ v u,R v h/\(results fn a.tmps).run P w=.ok u w/\Rep ⟨g0,live X h,w⟩ v u:=by
 obtain ⟨vs,us,hK,h1,h2⟩:=resK_ok (P:=P) hc hr
 have key:(results fn a.tmps).run P w=.ok (if h:us.length=1 then us[0] else .tuple us.toArray) w:=by
  unfold results;rw [Array.mapM_eq_mapM_toList];simp only [Sem.run_bind,Sem.run_pure,Sem.run_map,map_eq_pure_bind,Result.andThen]
  erw [h1]
  simp
 rw [key];have hl:=h2.length;unfold resV at hK;split at hK
 ·rename_i v;simp only [RepVs] at h2;obtain ⟨u,rr,rfl,h3,rfl⟩:=h2;exact ⟨v,u,hK,by simp,h3⟩
 rename_i hne
 have:us.length≠1:=by
  intro e;rw [e] at hl
  match vs,hl,hne with
  | [v],_,hne=>exact hne v rfl
 rw [dif_neg this];exact ⟨.tup vs,.tuple us.toArray,hK,rfl,by simp only [Rep];exact ⟨_,rfl,by simpa using h2⟩⟩
theorem argRegs_look {t:Nat} {gg:G} {v:AV}:∀ {xs:List AV} {i:Nat},lookR (argRegs i xs) t=some (gg,v)->gg=[]/\i<=t/\xs[t - i]?=some v
 | [],i,h=>by cases h
 | x::xs,i,h=>by
   unfold argRegs at h;unfold lookR at h;split at h
   ·rename_i hb;have hb:=Nat.eq_of_beq_eq_true hb;subst hb;cases h
    exact ⟨rfl,Nat.le_refl _,by simp⟩
   obtain ⟨h1,h2,h3⟩:=argRegs_look h;refine ⟨h1,by omega,?_⟩;rw [show t - i=(t - (i+1))+1 from by omega];simpa using h3
def endP (P:Program) (fn:Func) (R:AV->Heap->Prop):Ex->Regs->Heap->Prop
 | .normal,r,h=>resP P fn r h R
 | .ret,r,h=>resP P fn r h R
 | .exit _,_,_=>False
 | .pan _,_,_=>False
theorem acalls {f:FuncId} {fn:Func} {c:Cfg} {code:Code} {args:List AV} {R:AV->Heap->Prop} (hf:P.funcs[f]?=some fn) (hb:fn.body=some code) (hname:(fn.name == "runtime.NumGoroutine")=false)
  (hm:P.follows .mixedOrders=true) (hn:args.length<=fn.ntmps) (hcw:∀ X,cw P c fn.ntmps X code (endP P fn R) (argRegs 0 args) h):ACalls P f args h R:=by
 refine ⟨fun X g w us hc hr=>.inl ⟨⟨fn,code,hf,hb,hname⟩,?_⟩⟩;have hlen:=hr.length;simp at hlen;refine calls_of_wp hf hb (wp_mono ((cw_ok (n:=fn.ntmps) hm code (hcw X)).holds g _ w ⟨hc,?_,rfl,by simp;omega⟩) ?_)
 ·intro t gg v hl;obtain ⟨rfl,_,hx⟩:=argRegs_look hl;obtain ⟨u,hu,hrep⟩:=hr.get t v (by simpa using hx);refine ⟨fun _=>⟨by simp,u,?_,hrep⟩,fun hh=>absurd (fun e he=>by cases he) hh⟩;have hu':us[t]?=some u:=(by simpa using hu);have:=(Array.getElem?_eq_some_iff.1 hu').1;rw [Array.getElem?_append_left this];exact hu'
 rintro e a' w' ⟨ex,g',r',h',rfl,hQ,hc',hst⟩;cases ex with
 | normal=>
   obtain ⟨v,u,h1,h2,h3⟩:=resP_ok (P:=P) hc' hQ;exact ⟨hc'.defers,u,h2,v,u,g',h',rfl,h1,hc'.cw,h3,hst⟩
 | ret=>
   obtain ⟨v,u,h1,h2,h3⟩:=resP_ok (P:=P) hc' hQ;exact ⟨hc'.defers,u,h2,v,u,g',h',rfl,h1,hc'.cw,h3,hst⟩
 | exit i=>exact hQ.elim
 | pan v=>exact hQ.elim
theorem QCall.k {f:FuncId} {vs:List AV} {v:AV} {K:AV->Heap->Prop} (hq:QCall P f vs h v) (hk:K v h):ACalls P f vs h K:=
 ACalls.mono (by rintro v' h' ⟨rfl,rfl⟩;exact hk) hq
theorem QCall.k0 {f:FuncId} {vs:List AV} {v:AV} {K:AV->Heap->Prop} (hq:QCall P f vs [] v) (hk:K v h):ACalls P f vs h K:=(hq.wide h).k hk
theorem loop_ok {c:Cfg} (hm:P.follows .mixedOrders=true) (ks:List Nat) (ts:List (Nat × Nat)) (J:Nat->Regs->Heap->Prop) {body:Code} {Q:Ex->Regs->Heap->Prop} (h0:atHead ks ts (fun r h=>∃ m,J m r h) r h)
  (hb:∀ m r h,J m r h->cw P c n X body (fun e r' h'=>match e with
    | .normal=>atHead ks ts (fun r h=>∃ m',m'<m/\J m' r h) r' h'
    | e=>Q e r' h') r h):Holds P n X (.loop body) Q r h:=
 holds_loop ks ts J h0 fun m r h hJ=>cw_ok hm _ (hb m r h hJ)
def ints (l:List Int):List (List AV):=l.map fun x=>[AV.int .i64 x]
@[simp] theorem ints_length (l:List Int):(ints l).length=l.length:=by simp [ints]
end Go.Abs
