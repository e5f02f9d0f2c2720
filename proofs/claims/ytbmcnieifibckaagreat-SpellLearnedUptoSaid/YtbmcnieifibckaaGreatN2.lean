/- What is proved: small laws for the walks of this seat, and contracts of its functions. No condition but those each theorem names. -/
import Derived.Test.YtbmcnieifibckaaGreatN1
import Derived.Laws.OwnMore
import Derived.Carry
import Derived.Laws.IdiomRangeMap
import Derived.Lib.AppendZerosOnto
import Derived.Laws.RangeAny
/-
 The abstract fS,part F: the Fh that make or Pu own objects.
-/
set_option linter.unusedVariables false
set_option linter.unusedSimpArgs false
namespace Go.Abs
open Go
variable {P:Program} {n:Nat} {X:Nat->Prop} {g0:Gh} {r:aC} {h:af} {a:Act} {w:World}
def Gh.set (g:Gh) (k:Nat) (p:Option Addr) (b:Option (Nat × Nat)):Gh where
 pl:=fun k'=>if k'=k then p else g.pl k'
 ow:=fun b'=>match b with
  | some (bb,s)=>if b'=bb then some (k,s) else g.ow b'
  | none=>g.ow b'
theorem CW.fresh (hc:CW X g0 h w):∃ k,¬ X k/\k ∉ keys h/\g0.pl k=none/\∀ b s,g0.ow b≠some (k,s):=by
 obtain ⟨N,hN⟩:=hc.bound;refine ⟨N,fun hx=>?_,fun hk=>?_,?_,fun b s hb=>?_⟩
 ·exact absurd (hN N (.inl hx)) (Nat.lt_irrefl _)
 ·exact absurd (hN N (.inr (.inl hk))) (Nat.lt_irrefl _)
 ·cases hp:g0.pl N with
  | none=>rfl
  | some p=>exact absurd (hN N (.inr (.inr (.inl (by simp [hp]))))) (Nat.lt_irrefl _)
 exact absurd (hN N (.inr (.inr (.inr ⟨b,s,hb⟩)))) (Nat.lt_irrefl _)
theorem CW.newAt (hc:CW X g0 h w) (o:Obj) (s:Nat):∃ k,k ∉ keys h/\¬ X k /\
  (∀ ob,Step X g0 h w (g0.set k (some ⟨w.heap.size,s,none⟩) (some (w.heap.size,s))) ((k,ob)::h) (w.alloc o)) /\
  ∀ ob,oB ⟨g0.set k (some ⟨w.heap.size,s,none⟩) (some (w.heap.size,s)),live X ((k,ob)::h),w.alloc o⟩ k ob ->
   CW X (g0.set k (some ⟨w.heap.size,s,none⟩) (some (w.heap.size,s))) ((k,ob)::h) (w.alloc o):=by
 obtain ⟨k,f1,f2,f3,f4⟩:=hc.fresh
 have aF:∀ ob,Step X g0 h w (g0.set k (some ⟨w.heap.size,s,none⟩) (some (w.heap.size,s))) ((k,ob)::h) (w.alloc o):=by
  intro ob;refine ⟨rfl,⟨rfl,Nat.le_refl _⟩,rfl,by simp,?_,?_,?_,?_,?_,?_,?_⟩
  ·intro k' p hp;simp only [Gh.set];split
   ·rename_i e;subst e;rw [f3] at hp;cases hp
   exact hp
  ·intro b k' s' hb hx;simp only [Gh.set];split
   ·rename_i e;subst e;exact absurd (hc.own _ _ _ hb) (Nat.lt_irrefl _)
   exact hb
  ·intro b k' s' hb hx;simp only [Gh.set] at hb;split at hb
   ·cases hb;exact absurd hx f1
   exact hb
  ·intro k' hx hp;simp only [Gh.set];split
   ·rename_i e;subst e;exact absurd hx f1
   exact hp
  ·intro b hb nS;refine ⟨Af w o hb,fun k' s' ij bq=>?_⟩;simp only [Gh.set] at ij;split at ij
   ·omega
   simp [keys] at bq;rcases bq with rfl|⟨x,hx⟩
   ·exact f4 _ _ ij
   exact nS k' s' ij (by simp [keys];exact ⟨x,hx⟩)
  ·intro b k' s' hb bq cc t f bG;exact ⟨cc,(Af w o (hc.own _ _ _ hb)).trans bG,rfl,fun _ _=>rfl⟩
  intro b k' s' hb bq WK xZ uo _;simp only [Gh.set] at uo;split at uo
  ·rename_i e;subst e;exact absurd (hc.own _ _ _ hb) (Nat.lt_irrefl _)
  rw [hb] at uo;cases uo;exact Nat.le_refl _
 refine ⟨k,f2,f1,aF,fun ob jC=>⟨?_,?_,?_,?_,?_⟩⟩
 ·intro b k' s' hb;simp only [Gh.set] at hb;split at hb
  ·rename_i e;subst e;simp
  have:=hc.own _ _ _ hb;simp;omega
 ·obtain ⟨N,hN⟩:=hc.bound;refine ⟨max N (k+1),fun k' bq=>?_⟩;by_cases e:k'=k
  ·subst e;omega
  have:k'<N:=by
   rcases bq with hx|bq|hp|⟨b,s',hb⟩
   ·exact hN _ (.inl hx)
   ·simp [keys,e] at bq;obtain ⟨x,hx⟩:=bq;exact hN _ (.inr (.inl (by simp [keys];exact ⟨x,hx⟩)))
   ·simp only [Gh.set,e,if_false] at hp;exact hN _ (.inr (.inr (.inl hp)))
   simp only [Gh.set] at hb;split at hb
   ·cases hb;exact absurd rfl e
   exact hN _ (.inr (.inr (.inr ⟨b,s',hb⟩)))
  omega
 ·simp only [keys,List.map_cons,List.nodup_cons];exact ⟨f2,hc.nodup⟩
 ·intro k' bq;simp [keys] at bq;rcases bq with rfl|⟨x,hx⟩
  ·exact f1
  exact hc.sep k' (by simp [keys];exact ⟨x,hx⟩)
 intro k' o' hm;rcases List.mem_cons.1 hm with e|hm
 ·cases e;exact jC
 have bq:k'∈keys h:=by simp [keys];exact ⟨o',hm⟩
 have aJ:k'≠k:=fun e=>f2 (e ▸ bq);refine oB.mM (c:=⟨g0,live X h,w⟩) (Step.le (aF ob)) (hc.obj k' o' hm) ?_ ?_
 ·intro p hp ⟨s',ho⟩;have aI:=hc.own _ _ _ ho;refine ⟨Af w o aI,?_⟩;simp only [Gh.set];rw [if_neg (by omega)]
 intro hp;simp only [Gh.set,aJ,if_false];exact hp
theorem CV {g:G} {K:AV->Prop} {op:Op} (hq:bM P r g h K op):∃ v,K v:=by
 have sW:∀ {k:IntKind} {m:Int} {K:AV->Prop},arith g k m K->∃ v,K v:=by intro k m K hh;unfold arith at hh;cases k<;>first|exact ⟨_,hh.2⟩|exact ⟨_,hh⟩
 have wV:∀ {t:TypeId} {cs:List AV} {K:AV->Prop},gy P t cs K->∃ v,K v:=by
  intro t cs K hh;unfold gy at hh
  (repeat' split at hh)<;>first|exact ⟨_,hh⟩|exact hh.elim
 unfold bM at hq;split at hq;all_goals (repeat' split at hq)
 all_goals first
  | exact hq.elim
  | exact ⟨_,hq⟩
  | exact wV hq
  | exact sW hq
  | (obtain ⟨cs,l,_,_,hq⟩:=hq;exact wV hq)
  | (obtain ⟨j,y,_,hq⟩:=hq;exact ⟨_,hq⟩)
  | (obtain ⟨es,v,f,_,_,hq⟩:=hq;exact ⟨_,hq⟩)
  | (obtain ⟨j,l,_,_,hq⟩:=hq;exact ⟨_,hq⟩)
  | exact ⟨_,hq.2⟩
  | (obtain ⟨j,_,hq⟩:=hq;exact ⟨_,hq⟩)
  | (unfold tQ at hq;simp only [pd] at hq;(repeat' split at hq)<;>first|exact hq.elim|exact ⟨_,hq⟩|(split at hq<;>first|exact hq.elim|exact ⟨_,hq.2⟩)|exact ⟨_,hq.2⟩|exact sW hq.2|exact sW hq.2.2|exact ⟨_,hq.2.2⟩)
  | (unfold tU at hq;(repeat' split at hq)<;>first|exact hq.elim|exact ⟨_,hq⟩)
  | (unfold pg at hq;(repeat' split at hq)<;>first|exact hq.elim|exact ⟨_,hq.2⟩)
  | (unfold uR at hq;(repeat' split at hq)<;>first|exact hq.elim|(obtain ⟨ns,_,hq⟩:=hq;exact ⟨_,hq⟩))
theorem cO.split {b b':Nat} {o o':Ob}:∀ {h h':af},cO b o b' o' h h'->∃ l1 l2,h=l1++(b,o)::l2/\h'=l1++(b',o')::l2
 | _,_,.here l=>⟨[],l,rfl,rfl⟩
 | _,_,.there (x:=x) u=>by obtain ⟨l1,l2,rfl,rfl⟩:=cO.split u;exact ⟨x::l1,l2,rfl,rfl⟩
theorem bo.split {b:Nat} {o:Ob}:∀ {h h':af},bo b o h h'->∃ l1 l2,h=l1++(b,o)::l2/\h'=l1++l2
 | _,_,.here l=>⟨[],l,rfl,rfl⟩
 | _,_,.there (x:=x) u=>by obtain ⟨l1,l2,rfl,rfl⟩:=bo.split u;exact ⟨x::l1,l2,rfl,rfl⟩
theorem uq (l1 l2:af) (b:Nat) (o:Ob):keys (l1++(b,o)::l2)=keys l1++b::keys l2:=by simp [keys]
theorem jn (l1 l2:af) (b:Nat) (o:Ob) (k:Nat):k∈keys (l1++(b,o)::l2)↔k=b\/k∈keys (l1++l2):=by rw [uq];simp only [keys,List.map_append,List.mem_append,List.mem_cons];exact or_left_comm
theorem CW.replace {l1 l2:af} {b b':Nat} {o o':Ob} (hc:CW X g0 (l1++(b,o)::l2) w) {g':Gh} {w':World}
  (aF:Step X g0 (l1++(b,o)::l2) w g' (l1++(b',o')::l2) w')
  (JP:∀ aS k s,g'.ow aS=some (k,s)->aS<w'.heap.size)
  (ij:b'=b\/(¬ X b'/\b' ∉ keys (l1++(b,o)::l2)))
  (wJ:∀ k,g'.pl k≠none->k=b'\/g0.pl k≠none) (jC:∀ aS s k,g'.ow aS=some (k,s)->k=b'\/∃ aS s,g0.ow aS=some (k,s))
  (WL:∀ aS k s,g0.ow aS=some (k,s)->k∈keys (l1++l2)->w'.heap[aS]?=w.heap[aS]?/\g'.ow aS=g0.ow aS)
  (cN:oB ⟨g',live X (l1++(b',o')::l2),w'⟩ b' o'):CW X g' (l1++(b',o')::l2) w':=by
 have er:=hc.nodup;rw [uq] at er;have sX:=jn l1 l2 b' o';have Ge:=jn l1 l2 b o
 have mT:b ∉ keys (l1++l2):=by
  have:=er;simp only [List.nodup_append,List.nodup_cons] at this;intro hm;simp only [keys,List.map_append,List.mem_append] at hm;rcases hm with hm|hm
  ·exact this.2.2 b hm b (by simp) rfl
  exact this.2.1.1 hm
 have JQ:b' ∉ keys (l1++l2):=by
  rcases ij with rfl|⟨_,ij⟩
  ·exact mT
  intro hm;exact ij ((Ge b').2 (.inr hm))
 refine ⟨JP,?_,?_,?_,?_⟩
 ·obtain ⟨N,hN⟩:=hc.bound;refine ⟨max N (b'+1),fun k hk=>?_⟩;by_cases e:k=b'
  ·omega
  have:k<N:=by
   rcases hk with hx|hk|hp|⟨aS,s,iL⟩
   ·exact hN _ (.inl hx)
   ·exact hN _ (.inr (.inl ((Ge k).2 (.inr (((sX k).1 hk).resolve_left e)))))
   ·exact hN _ (.inr (.inr (.inl ((wJ k hp).resolve_left e))))
   exact hN _ (.inr (.inr (.inr ((jC aS s k iL).resolve_left e))))
  omega
 ·rw [uq];have h1:=er;simp only [List.nodup_append,List.nodup_cons] at h1 ⊢;have Ag:b' ∉ keys l1:=fun hm=>JQ (by simp [keys] at hm ⊢;exact .inl hm);have BX:b' ∉ keys l2:=fun hm=>JQ (by simp [keys] at hm ⊢;exact .inr hm);refine ⟨h1.1,⟨BX,h1.2.1.2⟩,fun x hx y hy=>?_⟩;rcases List.mem_cons.1 hy with rfl|hy
  ·intro e;subst e;exact Ag hx
  exact h1.2.2 x hx y (by simp [hy])
 ·intro k hk;rcases (sX k).1 hk with rfl|hk
  ·rcases ij with rfl|⟨ij,_⟩
   ·exact hc.sep _ ((Ge _).2 (.inl rfl))
   exact ij
  exact hc.sep k ((Ge k).2 (.inr hk))
 intro k ok hm;have yU:(k,ok)=(b',o')\/(k,ok)∈l1++l2:=by simp only [List.mem_append,List.mem_cons] at hm ⊢;exact or_left_comm.1 hm
 rcases yU with e|yU
 ·cases e;exact cN
 have hk:k∈keys (l1++l2):=by simp only [keys,List.mem_map];exact ⟨_,yU,rfl⟩
 have cu:(k,ok)∈l1++(b,o)::l2:=by simp only [List.mem_append,List.mem_cons] at yU ⊢;exact yU.elim .inl (fun h=>.inr (.inr h))
 refine oB.mM (c:=⟨g0,live X (l1++(b,o)::l2),w⟩) (Step.le aF) (hc.obj k ok cu) (fun p hp ⟨s,ho⟩=>WL _ _ _ ho hk) (fun hp=>?_);by_cases e:k=b'
 ·exact absurd (e ▸ hk) JQ
 cases hq:g'.pl k with
 | none=>rfl
 | some p=>exact absurd hp ((wJ k (by simp [hq])).resolve_left e)
theorem CX (b:Nat):∀ (vs:List Value) (o:Nat) (w:World) (cc:Array Value) (t:TypeId) (f:Nat × Nat),w.heap[b]?=some (.cells cc t f)->o+vs.length<=cc.size ->
  ∃ eE,(w.setCells b o vs).heap[b]?=some (.cells eE t f)/\eE.size=cc.size/\(∀ j,j<o\/o+vs.length<=j->eE[j]?=cc[j]?)/\(∀ j (hj:j<vs.length),eE[o+j]?=some vs[j]) /\
   (∀ b',b'≠b->(w.setCells b o vs).heap[b']?=w.heap[b']?)/\(w.setCells b o vs).heap.size=w.heap.size/\(w.setCells b o vs).os=w.os/\((w.setCells b o vs).tape=w.tape/\w.drawn<=(w.setCells b o vs).drawn) /\
   (w.setCells b o vs).output=w.output
 | [],o,w,cc,t,f,h,_=>⟨cc,h,rfl,fun _ _=>rfl,fun j hj=>by simp at hj,fun _ _=>rfl,rfl,rfl,⟨rfl,Nat.le_refl _⟩,rfl⟩
 | v::vs,o,w,cc,t,f,h,hle=>by
   simp only [List.length_cons] at hle;have h1:(w.setCell ⟨b,o,none⟩ v).heap[b]?=some (.cells (cc.setIfInBounds o v) t f):=by simp only [World.setCell,Array.getElem?_modify,if_true,h];rfl
   obtain ⟨eE,e1,e2,e3,e4,e5,e6,e7,e8,e9⟩:=CX b vs (o+1) (w.setCell ⟨b,o,none⟩ v) _ t f h1 (by simp;omega);refine ⟨eE,e1,by simpa using e2,fun j hj=>?_,fun j hj=>?_,fun b' ij=>?_,by simpa [World.setCells] using e6,e7,e8,e9⟩
   ·rw [e3 j (by simp only [List.length_cons] at hj;omega),Array.getElem?_setIfInBounds_ne (by simp only [List.length_cons] at hj;omega)]
   ·cases j with
    | zero=>
      rw [e3 (o+0) (by omega)];simp [Array.getElem?_setIfInBounds,show o<cc.size from by omega]
    | succ j=>
      have:=e4 j (by simpa using hj);rw [show o+(j+1)=o+1+j from by omega];simpa using this
   show ((w.setCell ⟨b,o,none⟩ v).setCells b (o+1) vs).heap[b']?=_;rw [e5 b' ij];exact heap_setCell_other w _ b' v ij
theorem Pv {t:TypeId} {b o:Nat} {u:Value} {cc:Array Value} {ty:TypeId} (hs:u.cells.size=P.cellsOf t) (hi:0<P.cellsOf t) (hb:w.heap[b]?=some (.cells cc ty (0,0))) (hle:o+u.cells.size<=cc.size)
  (h1:∀ x∈u.cells,x.oneCell'=true):(Instr.storeAt t (.pointer (some ⟨b,o,none⟩)) u).run P w=.ok () (w.setCells b o u.cells.toList):=by
 have bC:∃ i,P.info? t=some i:=by
  cases bC:P.info? t with
  | none=>simp [Program.cellsOf,bC] at hi
  | some i=>exact ⟨i,rfl⟩
 obtain ⟨i,bC⟩:=bC
 have aF:=run_storeCells_cells (P:=P) b o u.cells.toList 0 w
  (fun j hj=>by
    simp only [Nat.add_zero];rw [cell_of_row w b (o+j) cc ty _ hb];have:o+j<cc.size:=by simp at hj;omega
    simp [this])
  (fun j hj=>frozen_of_row w b _ cc ty hb) (fun v hv=>h1 v (by simpa using hv))
 simp only [Nat.add_zero] at aF;simp [Instr.storeAt,Instr.sureAddr,storeVar,pn bC,hs,aF]
theorem CW.sY {l1 l2:af} {b:Nat} {o:Ob} (hc:CW X g0 (l1++(b,o)::l2) w):b ∉ keys (l1++l2):=by
 have:=hc.nodup;rw [uq] at this;simp only [List.nodup_append,List.nodup_cons] at this;intro hm;simp only [keys,List.map_append,List.mem_append] at hm;rcases hm with hm|hm
 ·exact this.2.2 b hm b (by simp) rfl
 exact this.2.1.1 hm
theorem WM (cs:List AV) (o:Nat) (l:List AV) (hle:o+l.length<=cs.length) (i:Nat) :
  (dt cs o l)[i]?=if o<=i/\i<o+l.length then l[i - o]? else cs[i]?:=by
 unfold dt;by_cases h1:i<o
 ·rw [if_neg (by omega),List.append_assoc,List.getElem?_append_left (by simp;omega),List.getElem?_take_of_lt h1]
 by_cases h2:i<o+l.length
 ·rw [if_pos ⟨by omega,h2⟩,List.append_assoc,List.getElem?_append_right (by simp;omega),List.getElem?_append_left (by simp;omega)];congr 1;simp;omega
 rw [if_neg (by omega),List.getElem?_append_right (by simp;omega),List.getElem?_drop];congr 1;simp;omega
theorem Jg (cs:List AV) (o:Nat) (l:List AV) (hle:o+l.length<=cs.length):(dt cs o l).length=cs.length:=by unfold dt;simp;omega
theorem Gf {l1 l2:af} {b:Nat} {cs l:List AV} {o:Nat} {us:List Value} (hc:CW X g0 (l1++(b,.vec cs)::l2) w) (hle:o+l.length<=cs.length)
  (bd:ax ⟨g0,live X (l1++(b,.vec cs)::l2),w⟩ l us) (ho:∀ u∈us,u.oneCell'=true) :
  ∃ p cc t,g0.pl b=some p/\p.spot=none/\w.heap[p.block]?=some (.cells cc t (0,0))/\p.off+o+us.length<=cc.size /\
   CW X g0 (l1++(b,.vec (dt cs o l))::l2) (w.setCells p.block (p.off+o) us) /\
   Step X g0 (l1++(b,.vec cs)::l2) w g0 (l1++(b,.vec (dt cs o l))::l2) (w.setCells p.block (p.off+o) us):=by
 have jC:=hc.obj b (.vec cs) (by simp);obtain ⟨p,cc,t,h1,h2,h3,h4,h5,h6⟩:=jC;simp only at h1 h3 h4;have hlen:=bd.length;have iJ:p.off+o+us.length<=cc.size:=(by omega);obtain ⟨eE,e1,e2,e3,e4,e5,e6,e7,e8,e9⟩:=CX p.block us (p.off+o) w cc t (0,0) h4 iJ;have iL:b∈keys (l1++(b,.vec cs)::l2):=by rw [jn];exact .inl rfl
 have aF:Step X g0 (l1++(b,.vec cs)::l2) w g0 (l1++(b,.vec (dt cs o l))::l2) (w.setCells p.block (p.off+o) us):=by
  refine ⟨e7,e8,e9,by omega,fun _ _ e=>e,fun _ _ _ e _=>e,fun _ _ _ e _=>e,fun _ _ e=>e,?_,?_,?_⟩
  ·intro aS hb hn;have aJ:aS≠p.block:=fun e=>hn b 0 (e ▸ h3) iL;refine ⟨e5 aS aJ,fun k s hk hm=>hn k s hk ?_⟩;rw [jn] at hm ⊢;exact hm
  ·intro aS k s hk hm dd tt ff eQ;by_cases e:aS=p.block
   ·subst e;rw [h3] at hk;cases hk
    rw [h4] at eQ;cases eQ
    exact ⟨eE,e1,e2,fun o ho=>by omega⟩
   exact ⟨dd,(e5 aS e).trans eQ,rfl,fun _ _=>rfl⟩
  intro aS k s hk _ k' s' bq _;rw [hk] at bq;cases bq;exact Nat.le_refl _
 refine ⟨p,cc,t,h1,h2,h4,iJ,?_,aF⟩;refine hc.replace aF (fun aS k s hk=>by have:=hc.own _ _ _ hk;omega) (.inl rfl) (fun k hk=>.inr hk) (fun aS s k hk=>.inr ⟨aS,s,hk⟩) ?_ ?_
 ·intro aS k s hk hm
  have aJ:aS≠p.block:=by
   intro e;rw [e,h3] at hk;cases hk
   exact hc.sY hm
  exact ⟨e5 aS aJ,rfl⟩
 refine ⟨p,eE,t,h1,h2,h3,e1,by rw [Jg _ _ _ hle];omega,?_⟩;intro i x hx;rw [WM _ _ _ hle] at hx;split at hx
 ·rename_i hi;obtain ⟨u,hu,hr⟩:=bd.get _ _ hx;have aI:i - o<us.length:=(by omega);refine ⟨u,?_,ho u (List.mem_of_getElem? hu),aa.mono (Step.le aF) _ _ hr⟩;have:=e4 (i - o) aI;rw [show p.off+o+(i - o)=p.off+i from by omega] at this;rw [this,<- hu,List.getElem?_eq_getElem aI]
 rename_i hi;obtain ⟨u,hu,bH,hr⟩:=h6 i x hx;exact ⟨u,by rw [e3 _ (by omega)];exact hu,bH,aa.mono (Step.le aF) _ _ hr⟩
end Go.Abs
/-
 The abstract fS,part G: append,make,and all Fh that make or Pu own objects.
-/
namespace Go.Abs
open Go
variable {P:Program} {n:Nat} {X:Nat->Prop} {g0:Gh} {r:aC} {h:af} {a:Act} {w:World}
theorem Pw {tx:TypeId} (h:sw P tx=true):∃ d,P.underlying tx=some d/\((∃ e,d=.slice e)\/d=.string):=by
 unfold sw at h;cases hu:P.underlying tx with
 | none=>simp [hu] at h
 | some d=>cases d<;>simp [hu] at h<;>simp
theorem AK {t tx ty e:TypeId} {i:TypeInfo} (ht:P.underlying t=some (.slice e)) (eX:sw P tx=true) (hi:P.info? e=some i)
  {base:Option Addr} {gV mw m:Nat} {ux:Value} {news:List Value}
  (hl:∀ w',(Builtin.lenOf ux).run P w'=.ok m w') (hf:(Builtin.firstCells i.size m ux).run P w=.ok news.toArray w) (jT:gV+m<=mw)
  {w':World} (aF:∀ a,base=some a->(storeCells (a.add (gV*i.size)) news).run P w=.ok () w') (hn:base=none->w'=w) :
  (Builtin.append_ #[t,tx] ty #[.slice base gV mw,ux]).run P w=.ok (.slice base (gV+m) mw) w':=by
 obtain ⟨d,hd,cZ⟩:=Pw eX;have hz:((match (d:TypeDesc) with|.int _=>true|_=>false):Bool)=false:=by rcases cZ with ⟨e,rfl⟩|rfl<;>rfl
 cases base with
 | none=>
   have:=hn rfl;subst this;rcases cZ with ⟨e',rfl⟩|rfl<;>simp [Builtin.append_,run_underlying ht,run_underlying hd,sizeOf,typeInfo,hi,hl,jT,hf]
 | some b=>
   have:=aF b rfl;rcases cZ with ⟨e',rfl⟩|rfl<;>simp [Builtin.append_,run_underlying ht,run_underlying hd,sizeOf,typeInfo,hi,hl,jT,hf,this]
theorem yV {t tx ty e:TypeId} {i:TypeInfo} {z:Value} (ht:P.underlying t=some (.slice e)) (eX:sw P tx=true) (hi:P.info? e=some i) (hz:i.zero=some z)
  {base:Option Addr} {gV mw m:Nat} {ux:Value} {dx news:List Value}
  (hl:∀ w',(Builtin.lenOf ux).run P w'=.ok m w') (hf:(Builtin.firstCells i.size m ux).run P w.drew=.ok news.toArray w.drew)
  (ho:(Builtin.firstCells i.size gV (.slice base gV mw)).run P w.drew=.ok dx.toArray w.drew) (hg:mw<gV+m) (dS:gV+m<=aU) (hb:i.bytes<=4096) :
  (Builtin.append_ #[t,tx] ty #[.slice base gV mw,ux]).run P w =
    .ok (.slice (some ⟨w.heap.size,0,none⟩) (gV+m) (grownCap w (gV+m) mw e))
     (w.drew.alloc (.cells ((dx++news).toArray++Builtin.zeroCells z.cells (grownCap w (gV+m) mw e - (gV+m))) e)):=by
 obtain ⟨d,hd,cZ⟩:=Pw eX;have e0:∀ Z:Array Value,dx.toArray++(news.toArray++Z)=(dx++news).toArray++Z:=by intro Z;rw [<- Array.append_assoc];simp
 unfold aU at dS;have hn:¬ (gV+m<=mw):=(by omega);have WN:¬ (9223372036854775807<((gV:Int)+(m:Int))):=(by omega);have iJ:Builtin.nextslicecap (gV+m) mw*i.bytes<=281474976710656:=by have h1:Builtin.nextslicecap (gV+m) mw<=2*(gV+m):=nextslicecap_le hg;exact Nat.le_trans (Nat.mul_le_mul h1 hb) (by omega)
 have WO:¬ (281474976710656<Builtin.nextslicecap (gV+m) mw*i.bytes):=(by omega);have AL:(Builtin.firstCells i.size m ux).run P { w with drawn:=w.drawn+1 }=.ok news.toArray { w with drawn:=w.drawn+1 }:=hf;have bH:(Builtin.firstCells i.size gV (.slice base gV mw)).run P { w with drawn:=w.drawn+1 }=.ok dx.toArray { w with drawn:=w.drawn+1 }:=ho
 rcases cZ with ⟨e',rfl⟩|rfl <;>
  (simp [Builtin.append_,run_underlying ht,run_underlying hd,sizeOf,typeInfo,zeroValue,hi,hz,hl,hn,WN,WO,Question.forced,hf,ho,newRow,grownCap];rw [e0])
theorem wW {k:Nat} {y:AV} {ys:List (List AV)} {u:Value} {c:Cx} (h:rq k y=some ys) (hu:aa c y u) :
  ∃ news:List Value,(∀ w',(Builtin.lenOf u).run P w'=.ok ys.length w')/\(∀ w':World,w'.heap=c.w.heap->(Builtin.firstCells k ys.length u).run P w'=.ok news.toArray w') /\
   ax c ys.flatten news/\(∀ x∈ys,x.length=k)/\(∀ v∈news,v.oneCell'=true):=by
 unfold rq at h;split at h
 ·rename_i k' q xs;split at h<;>try contradiction
  rename_i hk;have hk:=Nat.eq_of_beq_eq_true hk;cases h
  subst hk;simp only [aa] at hu;obtain ⟨base,cap,rfl,e1,e2,e3,e4,e5,e6,e7⟩:=hu;cases base with
  | none=>
    have hx:ys=[]:=List.eq_nil_of_length_eq_zero (by have:=e4 rfl;omega);subst hx;exact ⟨[],fun w'=>by simp [Builtin.lenOf],fun w' _=>by simp [Builtin.firstCells],by simp [ax],by simp,by simp⟩
  | some ad=>
    obtain ⟨f1,f2⟩:=cm.toFlat (e6 ad rfl);obtain ⟨us,g1,g2,g3⟩:=bA.load f2;refine ⟨us,fun w'=>by simp [Builtin.lenOf],fun w' hw=>?_,g3,f1,fun v hv=>?_⟩
    ·refine run_firstCells_some w' k' ys.length ad ys.length cap us (by rw [g1,lB f1]) (fun j v hj=>?_);have:=(g2 j v hj).1;have hs:ad.spot=none:=e5 ad rfl (fun e=>by subst e;simp at g1;rw [g1] at hj;simp at hj)
     have eP:ad.add j=⟨ad.block,ad.off+j,none⟩:=by
      unfold Addr.add;split
      ·rename_i h0;rw [h0];cases ad;simp_all
      rfl
     rw [eP];simpa [World.cell?,hw] using this
    obtain ⟨j,hj⟩:=List.mem_iff_getElem?.1 hv;exact (g2 j v hj).2
 ·cases h
  simp only [aa] at hu;subst hu;exact ⟨[],fun w'=>by simp [Builtin.lenOf],fun w' _=>by simp [Builtin.firstCells],by simp [ax],by simp,by simp⟩
 ·split at h<;>try contradiction
  cases h
  simp only [aa] at hu;obtain ⟨a,cap,rfl,_⟩:=hu;exact ⟨[],fun w'=>by simp [Builtin.lenOf],fun w' _=>run_firstCells_some w' k 0 a 0 cap [] (by simp) (by simp),by simp [ax],by simp,by simp⟩
 ·rename_i s;split at h<;>try contradiction
  rename_i hk;have hk:=Nat.eq_of_beq_eq_true hk;cases h
  subst hk;rw [aa] at hu;obtain ⟨b,rfl,rfl,hl⟩:=hu;refine ⟨b.data.toList.map fun x=>.int .u8 (x.toNat:Int),fun w'=>?_,fun w' _=>?_,?_,by simp,?_⟩
  ·simp [Builtin.lenOf]
  ·simp [Builtin.firstCells];try exact Array.ext' (by simp)
  ·have key:∀ l:List UInt8,ax c (l.map fun b=>[AV.int .u8 (b.toNat:Int)]).flatten (l.map fun x=>.int .u8 (x.toNat:Int)):=by
    intro l;induction l with
    | nil=>simp [ax]
    | cons x l ih=>
      simp only [List.map_cons,List.flatten_cons,List.singleton_append,ax];refine ⟨_,_,rfl,?_,ih⟩;rw [aa];have:=x.toNat_lt;exact ⟨rfl,by constructor<;>simp [IntKind.min,IntKind.max,IntKind.signed,IntKind.bits]<;>omega⟩
   exact key _
  intro v hv;simp at hv;obtain ⟨x,_,rfl⟩:=hv;rfl
 cases h
def mZ (X:Nat->Prop) (g0:Gh) (h:af) (w:World) (K:AV->af->Prop) (d:Option Tmp) (a:Act) (next:Act->World->Prop):Prop:=
 ∀ v h' g' u w',K v h'->CW X g' h' w'->aa ⟨g',live X h',w'⟩ v u->Step X g0 h w g' h' w'->next (a.put d u) w'
theorem bA.in {c:Cx} {us:List Value} {b:Nat}:∀ {cs:List AV} {l:List Value} {o:Nat},ax c cs l ->
  (∀ j u,l[j]?=some u->c.w.cell? ⟨b,o+j,none⟩=some u/\u.oneCell'=true/\c.fr b (o+j))->bA c cs b o
 | [],l,o,_,_=>by simp [bA]
 | x::cs,l,o,h,hl=>by
   simp only [ax] at h;obtain ⟨u,r,rfl,h1,h2⟩:=h;simp only [bA];obtain ⟨e1,e2,e3⟩:=hl 0 u (by simp)
   exact ⟨⟨u,by simpa using e1,e2,by simpa using e3,h1⟩,bA.in (us:=us) h2 (fun j v hv=>by
    have:=hl (j+1) v (by simpa using hv);rw [show o+1+j=o+(j+1) from by omega];exact this)⟩
theorem cm.append {c:Cx} {k:Nat}:∀ {xs ys:List (List AV)} {b o:Nat},cm c k xs b o->cm c k ys b (o+xs.length*k)->cm c k (xs++ys) b o
 | [],ys,b,o,_,h=>by simpa using h
 | x::xs,ys,b,o,h,h'=>by simp only [List.cons_append,cm] at h ⊢;refine ⟨h.1,cm.append h.2 ?_⟩;simp only [List.length_cons,Nat.add_mul,Nat.one_mul] at h';rw [show o+k+xs.length*k=o+(xs.length*k+k) from by omega];exact h'
theorem Px {K:AV->af->Prop} {d:Option Tmp} {next:Act->World->Prop} (hc:CW X g0 h w) {xs:List (List AV)} {us:List Value} {k:Nat} {Z:Array Value} {e:TypeId} {cap:Nat}
  (bd:ax ⟨g0,live X h,w⟩ xs.flatten us) (hk:∀ x∈xs,x.length=k) (h1:∀ v∈us,v.oneCell'=true) (iO:0<k) (hlen:xs.length<=aU) (Iz:xs.length<=cap)
  (iG:us.length+Z.size=cap*k) (hq:∀ q,K (.sl k (some q) xs) ((q,.tok)::h)) (hn:mZ X g0 h w K d a next) :
  next (a.put d (.slice (some ⟨w.heap.size,0,none⟩) xs.length cap)) (w.drew.alloc (.cells (us.toArray++Z) e)):=by
 obtain ⟨c1,s1⟩:=hc.drew;obtain ⟨q,f1,f2,st,mk⟩:=c1.newAt (.cells (us.toArray++Z) e) (xs.length*k);have gT:us.length=xs.length*k:=by rw [bd.length,lB hk]
 have cV:=mk .tok (by
  intro p hp;simp only [Gh.set,if_true] at hp;cases hp
  exact ⟨rfl,by simp [Gh.set],us.toArray++Z,e,heap_alloc_new w.drew _⟩)
 have aF:=s1.trans hc.own (st .tok);refine hn _ _ _ _ _ (hq q) cV ?_ aF;simp only [aa];have WQ:Cx.Le ⟨g0,live X h,w⟩ _:=Step.le aF;refine ⟨_,cap,rfl,Iz,by unfold aw;unfold aU at hlen;omega,iO,by simp,by simp,?_,?_⟩
 ·intro ad ha;simp at ha;subst ha;refine cm.flat hk (bA.in (us:=us) (l:=us) (ax.mono WQ _ _ bd) ?_);intro j u hu;have hj:j<us.length:=(List.getElem?_eq_some_iff.1 hu).1;refine ⟨?_,h1 u (List.mem_of_getElem? hu),?_⟩
  ·show (w.drew.alloc _).cell? ⟨w.drew.heap.size,0+j,none⟩=_;rw [World.cell?_alloc_new,Nat.zero_add,Array.getElem?_append_left (by simpa using hj)];simpa using hu
  intro kk s hs _;have lC:some (q,xs.length*k)=some (kk,s):=by have h2:=hs;simp only [Gh.set] at h2;rwa [if_pos (show w.heap.size=w.drew.heap.size from rfl)] at h2
  cases lC
  show 0+j<xs.length*k;rw [<- gT];omega
 intro q' WR;cases WR
 right;refine ⟨_,rfl,rfl,by simp [Gh.set],?_⟩;refine ⟨_,_,_,heap_alloc_new w.drew _,?_⟩;simp only [Array.size_append,List.size_toArray];omega
end Go.Abs
/-
 The abstract fS,part H: all Fh that make or Pu own objects.
-/
namespace Go.Abs
open Go
variable {P:Program} {n:Nat} {X:Nat->Prop} {g0:Gh} {r:aC} {h:af} {a:Act} {w:World}
theorem CW.sub {h':af} (hc:CW X g0 h w) (gH:∀ k o,(k,o)∈h'->(k,o)∈h) (er:(keys h').Nodup):CW X g0 h' w/\Step X g0 h w g0 h' w:=by
 have hk:∀ k,k∈keys h'->k∈keys h:=by intro k hk;simp only [keys,List.mem_map] at hk ⊢;obtain ⟨⟨k',o⟩,hm,rfl⟩:=hk;exact ⟨_,gH _ _ hm,rfl⟩
 have aF:Step X g0 h w g0 h' w:=
  ⟨rfl,⟨rfl,Nat.le_refl _⟩,rfl,Nat.le_refl _,fun _ _ e=>e,fun _ _ _ e _=>e,fun _ _ _ e _=>e,fun _ _ e=>e,fun _ _ e=>⟨rfl,fun k s hb hm=>e k s hb (hk k hm)⟩,
    fun _ _ _ _ _ cc _ _ e=>⟨cc,e,rfl,fun _ _=>rfl⟩,fun _ _ _ e _ _ _ e' _=>by rw [e] at e';cases e';exact Nat.le_refl _⟩
 refine ⟨⟨hc.own,?_,er,fun k hm=>hc.sep k (hk k hm),fun k o hm=>?_⟩,aF⟩
 ·obtain ⟨N,hN⟩:=hc.bound;refine ⟨N,fun k hm=>hN k ?_⟩;rcases hm with hx|hm|hm
  ·exact .inl hx
  ·exact .inr (.inl (hk k hm))
  exact .inr (.inr hm)
 exact oB.mM (c:=⟨g0,live X h,w⟩) (Step.le aF) (hc.obj k o (gH k o hm)) (fun p _ _=>⟨rfl,rfl⟩) (fun e=>e)
theorem CW.Gg (hc:CW X g0 h w):∃ k,CW X g0 ((k,.tok)::h) w/\Step X g0 h w g0 ((k,.tok)::h) w:=by
 obtain ⟨k,f1,f2,f3,f4⟩:=hc.fresh
 have aF:Step X g0 h w g0 ((k,.tok)::h) w:=by
  refine ⟨rfl,⟨rfl,Nat.le_refl _⟩,rfl,Nat.le_refl _,fun _ _ e=>e,fun _ _ _ e _=>e,fun _ _ _ e _=>e,fun _ _ e=>e,fun b hb e=>⟨rfl,fun k' s ij hm=>?_⟩,
   fun _ _ _ _ _ cc _ _ e=>⟨cc,e,rfl,fun _ _=>rfl⟩,fun _ _ _ e _ _ _ e' _=>by rw [e] at e';cases e';exact Nat.le_refl _⟩
  simp [keys] at hm;rcases hm with rfl|⟨x,hx⟩
  ·exact f4 _ _ ij
  exact e k' s ij (by simp [keys];exact ⟨x,hx⟩)
 refine ⟨k,⟨hc.own,?_,?_,?_,?_⟩,aF⟩
 ·obtain ⟨N,hN⟩:=hc.bound;refine ⟨max N (k+1),fun k' bq=>?_⟩;by_cases e:k'=k
  ·subst e;omega
  have:k'<N:=by
   rcases bq with hx|bq|hp
   ·exact hN _ (.inl hx)
   ·simp [keys,e] at bq;obtain ⟨x,hx⟩:=bq;exact hN _ (.inr (.inl (by simp [keys];exact ⟨x,hx⟩)))
   exact hN _ (.inr (.inr hp))
  omega
 ·simp only [keys,List.map_cons,List.nodup_cons];exact ⟨f2,hc.nodup⟩
 ·intro k' bq;simp [keys] at bq;rcases bq with rfl|⟨x,hx⟩
  ·exact f1
  exact hc.sep k' (by simp [keys];exact ⟨x,hx⟩)
 intro k' o' hm;rcases List.mem_cons.1 hm with e|hm
 ·cases e
  intro p hp;simp only at hp;rw [f3] at hp;cases hp
 exact oB.mM (c:=⟨g0,live X h,w⟩) (Step.le aF) (hc.obj k' o' hm) (fun p _ _=>⟨rfl,rfl⟩) (fun e=>e)
theorem CW.CY (hc:CW X g0 h w) {l:List AV} {us:Array Value} (t:TypeId) (hr:ax ⟨g0,live X h,w⟩ l us.toList) (h1:∀ u∈us,u.oneCell'=true) :
  ∃ k g',g'.pl k=some ⟨w.heap.size,0,none⟩/\CW X g' ((k,.vec l)::h) (w.alloc (.cells us t))/\Step X g0 h w g' ((k,.vec l)::h) (w.alloc (.cells us t)):=by
 obtain ⟨k,f1,f2,st,mk⟩:=hc.newAt (.cells us t) 0;refine ⟨k,_,by simp [Gh.set],mk (.vec l) ?_,st (.vec l)⟩;have hl:=hr.length;refine ⟨⟨w.heap.size,0,none⟩,us,t,by simp [Gh.set],rfl,by simp [Gh.set],heap_alloc_new w _,by simp at hl ⊢;omega,?_⟩;intro i x hx;obtain ⟨u,hu,cN⟩:=hr.get i x hx;have dA:us[i]?=some u:=(by simpa using hu);exact ⟨u,by simpa using dA,h1 u (Array.mem_of_getElem? dA),aa.mono (Step.le (st (.vec l))) _ _ cN⟩
theorem Gi (z:Array Value) (hz:0<z.size):∀ m:Nat,(madeCells z (m*z.size)).toList=(List.replicate m z.toList).flatten
 | 0=>by simp [madeCells]
 | m+1=>by
   have ih:=Gi z hz m;simp only [madeCells,Array.toList_map,Array.toList_range] at ih ⊢;rw [Nat.add_mul,Nat.one_mul,Nat.add_comm,List.range_add,List.map_append,List.map_map,List.replicate_succ,List.flatten_cons,<- ih];congr 1
   ·apply List.ext_getElem
    ·simp
    intro i h1 h2;simp at h1;simp [Nat.mod_eq_of_lt h1];rw [getElem!_pos z i h1]
   apply List.map_congr_left;intro j _;simp
theorem ax.Gj {c:Cx} {z:List AV} {us:List Value} (hz:ax c z us):∀ m:Nat,ax c (gM m z) (List.replicate m us).flatten
 | 0=>by simp [gM,ax]
 | m+1=>by have:=ax.Gj hz m;simp only [gM] at this ⊢;rw [List.replicate_succ,List.replicate_succ,List.flatten_cons,List.flatten_cons];exact ax.append hz this
theorem WS {l1 l2:af} {q:Nat} {k m cap len:Nat} {ad:Addr} {news:List Value} (hc:CW X g0 (l1++(q,.tok)::l2) w)
  (hp:g0.pl q=some ⟨ad.block,ad.off+len*k,none⟩) (hb:World.qm w ad.block (ad.off+cap*k)) (hn:news.length=m*k) (jT:len+m<=cap)
  (h1:∀ v∈news,v.oneCell'=true) :
  (storeCells (⟨ad.block,ad.off+len*k,none⟩:Addr) news).run P w=.ok () (w.setCells ad.block (ad.off+len*k) news) /\
  ∃ q' g',q' ∉ keys (l1++(q,.tok)::l2)/\g'.pl q'=some ⟨ad.block,ad.off+(len+m)*k,none⟩/\g'.ow ad.block=some (q',ad.off+(len+m)*k) /\
   CW X g' (l1++(q',.tok)::l2) (w.setCells ad.block (ad.off+len*k) news) /\
   Step X g0 (l1++(q,.tok)::l2) w g' (l1++(q',.tok)::l2) (w.setCells ad.block (ad.off+len*k) news) /\
   World.qm (w.setCells ad.block (ad.off+len*k) news) ad.block (ad.off+cap*k) /\
   ∀ j u,news[j]?=some u->(w.setCells ad.block (ad.off+len*k) news).cell? ⟨ad.block,ad.off+len*k+j,none⟩=some u:=by
 have jC:=hc.obj q .tok (by simp);obtain ⟨_,yW,cc,t,bG⟩:=jC _ hp;simp only at yW bG;obtain ⟨sq,t2,f2,Py,iG⟩:=hb;rw [bG] at Py;obtain ⟨rfl,rfl,rfl⟩:cc=sq/\t=t2/\(0,0)=f2:=by injection Py with e;injection e with e1 e2 e3;exact ⟨e1,e2,e3⟩
 have hle:ad.off+len*k+news.length<=cc.size:=by have:=Nat.mul_le_mul_right k jT;rw [Nat.add_mul] at this;omega
 obtain ⟨eE,e1,e2,e3,e4,e5,e6,e7,e8,e9⟩:=CX ad.block news (ad.off+len*k) w cc t (0,0) bG hle;have JR:q∈keys (l1++(q,.tok)::l2):=by rw [jn];exact .inl rfl
 constructor
 ·have aF:=run_storeCells_cells (P:=P) ad.block (ad.off+len*k) news 0 w
   (fun j hj=>by
     simp only [Nat.add_zero];rw [cell_of_row w ad.block _ cc t _ bG];have:ad.off+len*k+j<cc.size:=(by omega);simp [this])
   (fun j hj=>frozen_of_row w ad.block _ cc t bG) h1
  simpa only [Nat.add_zero] using aF
 obtain ⟨q',f1,f2,f3,f4⟩:=hc.fresh;have V3:q'≠q:=fun e=>f2 (e ▸ JR)
 have aF:Step X g0 (l1++(q,.tok)::l2) w (g0.set q' (some ⟨ad.block,ad.off+(len+m)*k,none⟩) (some (ad.block,ad.off+(len+m)*k))) (l1++(q',.tok)::l2)
   (w.setCells ad.block (ad.off+len*k) news):=by
  refine ⟨e7,e8,e9,by omega,?_,?_,?_,?_,?_,?_,?_⟩
  ·intro k' p bq;simp only [Gh.set];split
   ·rename_i e;subst e;rw [f3] at bq;cases bq
   exact bq
  ·intro b k' s hb hx;simp only [Gh.set];split
   ·rename_i e;subst e;rw [yW] at hb;cases hb;exact absurd hx (hc.sep _ JR)
   exact hb
  ·intro b k' s hb hx;simp only [Gh.set] at hb;split at hb
   ·cases hb;exact absurd hx f1
   exact hb
  ·intro k' hx aY;simp only [Gh.set];split
   ·rename_i e;subst e;exact absurd hx f1
   exact aY
  ·intro b hb nS;have aJ:b≠ad.block:=fun e=>nS q _ (e ▸ yW) JR;refine ⟨e5 b aJ,fun k' s ij hm=>?_⟩;simp only [Gh.set,if_neg aJ] at ij;rw [jn] at hm;rcases hm with rfl|hm
   ·exact f4 _ _ ij
   exact nS k' s ij ((jn _ _ _ _ _).2 (.inr hm))
  ·intro b k' s hb hm dd tt ff eQ;by_cases e:b=ad.block
   ·subst e;rw [yW] at hb;cases hb
    rw [bG] at eQ;cases eQ
    exact ⟨eE,e1,e2,fun o ho=>e3 o (.inl ho)⟩
   exact ⟨dd,(e5 b e).trans eQ,rfl,fun _ _=>rfl⟩
  intro b k' s hb hm WK xZ uo _;by_cases e:b=ad.block
  ·subst e;rw [yW] at hb;cases hb
   simp only [Gh.set,if_true] at uo;cases uo
   rw [Nat.add_mul];omega
  simp only [Gh.set,if_neg e] at uo;rw [hb] at uo;cases uo;exact Nat.le_refl _
 refine ⟨q',_,f2,by simp [Gh.set],by simp [Gh.set],?_,aF,⟨eE,t,_,e1,by omega⟩,?_⟩
 ·refine hc.replace aF ?_ (.inr ⟨f1,f2⟩) ?_ ?_ ?_ ?_
  ·intro aS k' s hb;simp only [Gh.set] at hb;split at hb
   ·rename_i e;subst e;have:=hc.own _ _ _ yW;omega
   have:=hc.own _ _ _ hb;omega
  ·intro k' bq;by_cases e:k'=q'
   ·exact .inl e
   simp only [Gh.set,if_neg e] at bq;exact .inr bq
  ·intro aS s k' hb;simp only [Gh.set] at hb;split at hb
   ·cases hb;exact .inl rfl
   exact .inr ⟨_,_,hb⟩
  ·intro aS k' s hb hm
   have aJ:aS≠ad.block:=by
    intro e;rw [e,yW] at hb;cases hb
    exact hc.sY hm
   exact ⟨e5 aS aJ,by simp only [Gh.set,if_neg aJ]⟩
  intro p aY;simp only [Gh.set,if_true] at aY;cases aY
  exact ⟨rfl,by simp [Gh.set],eE,t,e1⟩
 intro j u hu;have hj:=(List.getElem?_eq_some_iff.1 hu).1;rw [cell_of_row _ ad.block _ eE t _ e1,e4 j hj,<- hu,List.getElem?_eq_getElem hj]
theorem mZ.of {K K':AV->af->Prop} {d:Option Tmp} {next:Act->World->Prop} (hn:mZ X g0 h w K d a next)
  (hk:∀ v h',K' v h'->∃ qx,K v qx/\(∀ k o,(k,o)∈qx->(k,o)∈h')/\((keys h').Nodup->(keys qx).Nodup)) (hc:CW X g0 h w):mZ X g0 h w K' d a next:=by
 intro v h' g' u w' hK c1 c2 c3;obtain ⟨qx,k1,k2,k3⟩:=hk v h' hK;obtain ⟨d1,d2⟩:=c1.sub k2 (k3 c1.nodup);exact hn v qx g' u w' k1 d1 (aa.mono (Step.le d2) _ _ c2) (c3.trans hc.own d2)
theorem Pz {l1 l2:af} {q k:Nat} {xs ys:List (List AV)} {u uy:Value} {t tx ty e:TypeId} {K:AV->af->Prop} {next:Act->World->Prop} {o:Oper}
  {Q:Exit->Act->World->Prop} (hc:CW X g0 (l1++(q,.tok)::l2) w) (ht:P.underlying t=some (.slice e)) (eX:sw P tx=true) (iO:1<=P.cellsOf e) (jY:P.bytesOf e<=4096)
  {z:List AV} (hz:jc P e=some z) (iI:z.length=P.cellsOf e) (hk:k=P.cellsOf e) (ur:∃ news:List Value,(∀ w',(Builtin.lenOf uy).run P w'=.ok ys.length w')/\(∀ w':World,w'.heap=w.heap->(Builtin.firstCells k ys.length uy).run P w'=.ok news.toArray w') /\
   ax ⟨g0,live X (l1++(q,.tok)::l2),w⟩ ys.flatten news/\(∀ x∈ys,x.length=k)/\(∀ v∈news,v.oneCell'=true)) (dS:(xs++ys).length<=aU)
  (hx:aa ⟨g0,live X (l1++(q,.tok)::l2),w⟩ (.sl k (some q) xs) u)
  (bx:∀ s w',(Builtin.append_ #[t,tx] ty #[u,uy]).run P w=.ok s w'->(execOp a.eval o).run P w=.ok (.value s) w')
  (hK:∀ q',∃ h',cO q .tok q' .tok (l1++(q,.tok)::l2) h'/\K (.sl k (some q') (xs++ys)) h') (hn:mZ X g0 (l1++(q,.tok)::l2) w K o.dst a next):o.wp P a w next Q:=by
 obtain ⟨i,zv,hi,fV,fg,gz⟩:=nH (c:=⟨g0,live X (l1++(q,.tok)::l2),w⟩) hz;have fZ:i.size=P.cellsOf e:=(by simp [Program.cellsOf,hi]);have vE:i.bytes=P.bytesOf e:=(by simp [Program.bytesOf,hi]);have my:zv.cells.size=P.cellsOf e:=by have:=fg.length;simp at this;omega
 obtain ⟨news,n1,n2,n3,n4,n5⟩:=ur;have gm:news.length=ys.length*k:=(by rw [n3.length,lB n4]);have mz:=hx;simp only [aa] at hx;obtain ⟨base,cap,rfl,x1,x2,x3,x4,x5,x6,x7⟩:=hx
 have JS:∀ q' h',cO q .tok q' .tok (l1++(q,.tok)::l2) h'->h'=l1++(q',.tok)::l2:=by
  intro q' h' hu;obtain ⟨m1,m2,e1,e2⟩:=cO.split hu
  -- keys PA V4 from one V5
  have er:=hc.nodup
  have key:∀ (l1 m1 l2 m2:af),(keys (l1++(q,.tok)::l2)).Nodup->l1++(q,Ob.tok)::l2=m1++(q,.tok)::m2->l1=m1/\l2=m2:=by
   intro l1;induction l1 with
   | nil=>
     intro m1 l2 m2 er he;cases m1 with
     | nil=>simp at he;exact ⟨rfl,he⟩
     | cons x m1=>
       simp at he;obtain ⟨rfl,rfl⟩:=he;simp [keys] at er
   | cons x l1 ih=>
     intro m1 l2 m2 er he;cases m1 with
     | nil=>
       simp at he;obtain ⟨rfl,rfl⟩:=he;simp [keys] at er
     | cons y m1=>
       simp at he;obtain ⟨rfl,he⟩:=he;have WT:(keys (l1++(q,.tok)::l2)).Nodup:=by simp only [keys,List.cons_append,List.map_cons,List.nodup_cons] at er ⊢;exact er.2
       obtain ⟨rfl,rfl⟩:=ih m1 l2 m2 WT he;exact ⟨rfl,rfl⟩
  obtain ⟨rfl,rfl⟩:=key _ _ _ _ er e1;exact e2
 by_cases jT:xs.length+ys.length<=cap
 ·by_cases hm:ys=[]
  ·-- nothing
   subst hm;have fM:news=[]:=List.eq_nil_of_length_eq_zero (by rw [gm];simp);subst fM;obtain ⟨h',hu,hK⟩:=hK q;have:=JS _ _ hu;subst this;refine eh (w':=w) (bx _ _ (AK (w':=w) (m:=0) (i:=i) ht eX hi (by simpa using n1) (by simpa [fZ,hk] using n2 w rfl) (by omega) ?_ (fun _=>rfl))) ?_
   ·intro ad _;simp [storeCells]
   refine hn _ _ g0 _ w hK hc ?_ (Step.refl _ _ _ _);simpa using mz
  have dK:0<ys.length:=List.length_pos_iff.2 hm;rcases x7 q rfl with x7|⟨ad,ha,hs,hp,Gk⟩
  ·omega
  subst ha;obtain ⟨st,q',g',f1,f2,f3,f4,f5,f6,f7⟩:=WS (P:=P) (m:=ys.length) hc hp Gk gm jT n5;obtain ⟨h',hu,hK⟩:=hK q';have:=JS _ _ hu;subst this
  have eP:∀ j,ad.add j=⟨ad.block,ad.off+j,none⟩:=by
   intro j;unfold Addr.add;split
   ·rename_i h0;rw [h0];cases ad;simp_all
   rfl
  refine eh (bx _ _ (AK (m:=ys.length) (i:=i) ht eX hi n1 (by rw [fZ,<- hk];exact n2 w rfl) jT
   (w':=w.setCells ad.block (ad.off+xs.length*k) news) ?_ (fun e=>by cases e))) ?_
  ·intro JT he;cases he
   rw [eP,fZ,<- hk];exact st
  refine hn _ _ g' _ _ hK f4 ?_ f5;simp only [aa];refine ⟨some ad,cap,by simp,by simpa using jT,by unfold aw;unfold aU at dS;omega,x3,by simp,fun a' mN _=>by cases mN;exact hs,?_,?_⟩
  ·intro a' mN;cases mN
   refine cm.append (cm.mono (Step.le f5) _ _ _ _ (x6 ad rfl)) ?_;refine cm.flat n4 (bA.in (us:=news) (l:=news) (ax.mono (Step.le f5) _ _ n3) ?_);intro j v hj;have gl:=(List.getElem?_eq_some_iff.1 hj).1;refine ⟨f7 j v hj,n5 v (List.mem_of_getElem? hj),?_⟩;intro kk s lC _;simp only at lC;rw [f3] at lC;cases lC
   rw [Nat.add_mul];omega
  intro q2 mX;cases mX
  exact .inr ⟨ad,rfl,hs,by simp only [f2,List.length_append],f6⟩
 -- a new row
 obtain ⟨dx,o1,o2,o3,o4,o5⟩:=wW (k:=k) (y:=.sl k (some q) xs) (ys:=xs) (c:=⟨g0,live X (l1++(q,.tok)::l2),w⟩) (by simp [rq,Nat.beq_refl]) mz;have hg:cap<xs.length+ys.length:=by omega
 have lT:=yV (P:=P) (w:=w) (ty:=ty) (i:=i) (z:=zv) (m:=ys.length) ht eX hi fV n1 (by rw [fZ,<- hk];exact n2 w.drew rfl) (base:=base)
  (by rw [fZ,<- hk];exact o2 w.drew rfl) hg (by simpa using dS) (by omega)
 refine eh (bx _ _ lT) ?_;have uu:=grownCap_ge w (xs.length+ys.length) cap e
 have dV:=Px (K:=fun v h'=>∃ q',v=.sl k (some q') (xs++ys)/\h'=(q',.tok)::(l1++(q,.tok)::l2)) (xs:=xs++ys) (us:=dx++news) (k:=k) (e:=e)
  (cap:=grownCap w (xs.length+ys.length) cap e) (Z:=Builtin.zeroCells zv.cells (grownCap w (xs.length+ys.length) cap e - (xs.length+ys.length)))
  (d:=o.dst) (a:=a) (next:=next) hc (by simpa using ax.append o3 n3) (by intro x hx;rcases List.mem_append.1 hx with h|h;exact o4 x h;exact n4 x h)
  (by intro v hv;rcases List.mem_append.1 hv with h|h;exact o5 v h;exact n5 v h) x3 dS (by simpa using uu) ?_ (fun q'=>⟨q',rfl,rfl⟩) (hn.of ?_ hc)
 ·simpa using dV
 ·rw [size_zeroCells,my,<- hk,List.length_append,gm,o3.length,lB o4,<- Nat.add_mul,<- Nat.add_mul];congr 1;omega
 rintro v h' ⟨q',rfl,rfl⟩;obtain ⟨h',hu,hK⟩:=hK q';have:=JS _ _ hu;subst this;refine ⟨_,hK,?_,?_⟩
 ·intro k' o' hm;simp only [List.mem_append,List.mem_cons] at hm ⊢;rcases hm with h|h|h
  ·exact .inr (.inl h)
  ·exact .inl h
  exact .inr (.inr (.inr h))
 intro er;rw [uq];simp only [keys,List.map_cons,List.map_append,List.nodup_cons,List.nodup_append,List.mem_append,List.mem_cons,not_or] at er ⊢;obtain ⟨⟨a1,a2,a3⟩,b1,⟨b2,b3⟩,b4⟩:=er;refine ⟨b1,⟨a3,b3⟩,fun x hx y hy=>?_⟩;rcases hy with rfl|hy
 ·rintro rfl;exact a1 hx
 exact b4 x hx y (.inr hy)
theorem WU {l1 l2:af} {q k:Nat} {xs ys:List (List AV)} {y:AV} {u uy:Value} {t tx ty e:TypeId} {K:AV->af->Prop} {next:Act->World->Prop} {o:Oper}
  {Q:Exit->Act->World->Prop} (hc:CW X g0 (l1++(q,.tok)::l2) w) (ht:P.underlying t=some (.slice e)) (eX:sw P tx=true) (iO:1<=P.cellsOf e) (jY:P.bytesOf e<=4096)
  {z:List AV} (hz:jc P e=some z) (iI:z.length=P.cellsOf e) (hk:k=P.cellsOf e) (lg:rq k y=some ys) (dS:(xs++ys).length<=aU)
  (hx:aa ⟨g0,live X (l1++(q,.tok)::l2),w⟩ (.sl k (some q) xs) u) (hy:aa ⟨g0,live X (l1++(q,.tok)::l2),w⟩ y uy)
  (bx:∀ s w',(Builtin.append_ #[t,tx] ty #[u,uy]).run P w=.ok s w'->(execOp a.eval o).run P w=.ok (.value s) w')
  (hK:∀ q',∃ h',cO q .tok q' .tok (l1++(q,.tok)::l2) h'/\K (.sl k (some q') (xs++ys)) h') (hn:mZ X g0 (l1++(q,.tok)::l2) w K o.dst a next):o.wp P a w next Q:=by
 exact Pz hc ht eX iO jY hz iI hk (wW lg hy) dS hx bx hK hn
end Go.Abs
/-
 The abstract fS,part I0: V6 Nd an own map.
-/
namespace Go.Abs
open Go
def JU (w1 w:World):Prop:=w1.Alike w/\(w1.tape=w.tape/\w.drawn<=w1.drawn)
variable {P:Program} {n:Nat} {X:Nat->Prop} {g0:Gh} {r:aC} {h:af} {a:Act} {w:World}
theorem eN.len {c:Cx}:∀ {es:List (AV × AV)} {al:List MapEntry},eN c es al->es.length=al.length
 | [],_,h=>by rw [h];rfl
 | x::es,_,h=>by obtain ⟨e,r,rfl,_,_,h⟩:=h;simp [eN.len h]
theorem eN.get {c:Cx}:∀ {es:List (AV × AV)} {al:List MapEntry} {i:Nat} {x:AV × AV},eN c es al->es[i]?=some x->∃ e,al[i]?=some e/\aa c x.1 e.key/\aa c x.2 e.val
 | [],_,i,x,_,hx=>by cases hx
 | y::es,_,0,x,h,hx=>by obtain ⟨e,r,rfl,a1,a2,h⟩:=h;simp at hx;subst hx;exact ⟨e,rfl,a1,a2⟩
 | y::es,_,i+1,x,h,hx=>by obtain ⟨e,r,rfl,a1,a2,h⟩:=h;obtain ⟨e',h1,h2⟩:=eN.get h (by simpa using hx);exact ⟨e',by simpa using h1,h2⟩
theorem WV {l1 l2:af} {b:Nat} {es:List (AV × AV)} (hc:CW X g0 (l1++(b,.map es)::l2) w):∃ p bs cl al,bs.length=es.length/\bs.Nodup/\g0.pl b=some p/\w.heap[p.block]?=some (.map al cl) /\
  CW X g0 (l1++(b,.uP es bs cl)::l2) w/\Step X g0 (l1++(b,.map es)::l2) w g0 (l1++(b,.uP es bs cl)::l2) w:=by
 obtain ⟨p,cl,al,o1,o2,o3,o4,o5,o6⟩:=hc.obj b (.map es) (by simp)
 have aF:Step X g0 (l1++(b,.map es)::l2) w g0 (l1++(b,.uP es (al.toList.map (·.born)) cl)::l2) w:=by
  refine ⟨rfl,⟨rfl,Nat.le_refl _⟩,rfl,Nat.le_refl _,fun _ _ e=>e,fun _ _ _ e _=>e,fun _ _ _ e _=>e,fun _ _ e=>e,?_,?_,?_⟩
  ·intro aS aI hn;refine ⟨rfl,fun k s hk hm=>hn k s hk ?_⟩;rw [jn] at hm ⊢;exact hm
  ·intro aS k s hk hm dd tt ff eQ;exact ⟨dd,eQ,rfl,fun _ _=>rfl⟩
  intro aS k s hk _ k' s' bq _;rw [hk] at bq;cases bq;exact Nat.le_refl _
 refine ⟨p,_,cl,al,by simp [eN.len o4],o6,o1,o3,?_,aF⟩;refine hc.replace aF hc.own (.inl rfl) (fun k hk=>.inr hk) (fun aS s k hk=>.inr ⟨aS,s,hk⟩) (fun aS k s hk hm=>⟨rfl,rfl⟩) ?_;exact ⟨p,al,o1,o2,o3,eN.mono (Step.le aF) o4,o5,o6,rfl⟩
theorem WW {l1 l2:af} {b m cl:Nat} {seen CZ:List Nat} {p pm:Addr} {sa yX:Array Nat} {w1:World} (hc:CW X g0 (l1++(b,.iter m cl seen)::l2) w) (ha:JU w1 w) (hp:g0.pl b=some p) (ho:g0.ow p.block=some (b,0))
  (hb:w.heap[p.block]?=some (.mapIter (some pm.block) cl sa cl)) (eT:g0.pl m=some pm) (hs:yX.toList=CZ) :
  CW X g0 (l1++(b,.iter m cl CZ)::l2) { w1 with heap:=w1.heap.setIfInBounds p.block (.mapIter (some pm.block) cl yX cl) } /\
  Step X g0 (l1++(b,.iter m cl seen)::l2) w g0 (l1++(b,.iter m cl CZ)::l2) { w1 with heap:=w1.heap.setIfInBounds p.block (.mapIter (some pm.block) cl yX cl) }:=by
 obtain ⟨⟨a1,a2,a3⟩,a4⟩:=ha;have aI:p.block<w.heap.size:=(Array.getElem?_eq_some_iff.1 hb).1;have sZ:∀ aS,aS≠p.block->(w1.heap.setIfInBounds p.block (.mapIter (some pm.block) cl yX cl))[aS]?=w.heap[aS]?:=fun aS aJ=>by rw [Array.getElem?_setIfInBounds_ne (Ne.symm aJ),a1]
 have iL:b∈keys (l1++(b,.iter m cl seen)::l2):=by rw [jn];exact .inl rfl
 have aF:Step X g0 (l1++(b,.iter m cl seen)::l2) w g0 (l1++(b,.iter m cl CZ)::l2) { w1 with heap:=w1.heap.setIfInBounds p.block (.mapIter (some pm.block) cl yX cl) }:=by
  refine ⟨a2,a4,a3,by simp [a1],fun _ _ e=>e,fun _ _ _ e _=>e,fun _ _ _ e _=>e,fun _ _ e=>e,?_,?_,?_⟩
  ·intro aS aI hn;have aJ:aS≠p.block:=fun e=>hn b 0 (e ▸ ho) iL;refine ⟨sZ aS aJ,fun k s hk hm=>hn k s hk ?_⟩;rw [jn] at hm ⊢;exact hm
  ·intro aS k s hk hm dd tt ff eQ;by_cases e:aS=p.block
   ·subst e;rw [hb] at eQ;cases eQ
   exact ⟨dd,(sZ aS e).trans eQ,rfl,fun _ _=>rfl⟩
  intro aS k s hk _ k' s' bq _;rw [hk] at bq;cases bq;exact Nat.le_refl _
 refine ⟨?_,aF⟩;refine hc.replace aF (fun aS k s hk=>by have:=hc.own _ _ _ hk;simpa [a1] using this) (.inl rfl) (fun k hk=>.inr hk) (fun aS s k hk=>.inr ⟨aS,s,hk⟩) ?_ ?_
 ·intro aS k s hk hm
  have aJ:aS≠p.block:=by
   intro e;rw [e,ho] at hk;cases hk
   exact hc.sY hm
  exact ⟨sZ aS aJ,rfl⟩
 exact ⟨p,pm,yX,hp,ho,by simp [aI,a1],eT,hs⟩
theorem run_next_any (ty:TypeId) (bi bm since:Nat) (seen:Array Nat) (es:Array MapEntry) (hi:w.heap[bi]?=some (.mapIter (some bm) since seen since)) (hb:w.heap[bm]?=some (.map es since)) (hold:∀ x∈es.toList,x.born<since) :
  ((leftOf es seen).size=0/\(Instr.next (.pointer (some ⟨bi,0,none⟩)) false ty).run P w=.ok (.tuple #[.bool false]) w) \/
  ∃ e∈(leftOf es seen).toList,∃ w1:World,JU w1 w/\(Instr.next (.pointer (some ⟨bi,0,none⟩)) false ty).run P w=.ok (.tuple #[.bool true,e.key,e.val]) { w1 with heap:=w1.heap.setIfInBounds bi (.mapIter (some bm) since (seen.push e.born) since) }:=by
 simp only [Instr.next,getObj,Sem.run_bind,Sem.run,hi,hb,Result.andThen,next_test_false seen es since since hold (Nat.le_refl _),Bool.false_eq_true,if_false];unfold leftOf;have vB:∀ x∈(Array.filter (fun e=>!seen.contains e.born) es).toList,x.born<since:=fun x hx=>hold x (by simp at hx ⊢;exact hx.1);generalize Array.filter (fun e=>!seen.contains e.born) es=L at vB ⊢;have e1:L.filter (fun x=>decide (x.born<since))=L:=Array.filter_eq_self.2 (fun x hx=>by simpa using vB x (by simpa using hx));have e2:L.filter (fun x=>decide (x.born>=since))=#[]:=by rw [Array.filter_eq_empty_iff];intro x hx;have:=vB x (by simpa using hx);simp;omega
 simp only [e1,e2,Array.append_empty];by_cases h0:L.size=0
 ·left;have:L=#[]:=Array.eq_empty_of_size_eq_zero h0;subst this;refine ⟨rfl,?_⟩;simp [choose,Sem.run,Question.forced]
 right;have aJ:L.isEmpty=false:=(by simp [Array.isEmpty,h0]);simp only [aJ,Bool.false_eq_true,if_false,Array.empty_append,Array.size_map]
 have WX:∃ (j:Nat) (w1:World),j<L.size/\JU w1 w/\(choose (Question.mapNext L.size)).run P w=.ok j w1:=by
  by_cases hf:L.size<=1
  ·exact ⟨0,w,by omega,⟨⟨rfl,rfl,rfl⟩,rfl,Nat.le_refl _⟩,by simp [choose,Sem.run,Question.forced,hf]⟩
  exact ⟨_,w.drew,Nat.mod_lt _ (by omega),⟨⟨rfl,rfl,rfl⟩,rfl,Nat.le_succ _⟩,by
   simp only [choose,Sem.run,Question.forced,decide_eq_true_eq,hf,if_false,Question.cut];rfl⟩
 obtain ⟨j,w1,hj,jy,bx⟩:=WX;refine ⟨L[j],by simp,w1,jy,?_⟩;have jD:(setObj bi (.mapIter (some bm) since (seen.push L[j].born) since)).run P w1=.ok () { w1 with heap:=w1.heap.setIfInBounds bi (.mapIter (some bm) since (seen.push L[j].born) since) }:=(by simp [setObj,Sem.run,jy.1.1,hi]);simp only [bx,Array.getElem?_map,Array.getElem?_eq_getElem hj,Option.map_some,Sem.run_bind,jD,Result.andThen];rfl
theorem WY (bi bm since c0:Nat) (seen:Array Nat) (es:Array MapEntry) (e:MapEntry) (hi:w.heap[bi]?=some (.mapIter (some bm) since seen c0)) (hb:w.heap[bm]?=some (.map es c0)) (hs:seen.back?=some e.born) (he:e∈es.toList) (hn:(es.toList.map (·.born)).Nodup) :
  (Instr.entry (.pointer (some ⟨bi,0,none⟩))).run P w=.ok (.tuple #[e.key,e.val]) w:=by
 have hf:es.find? (·.born == e.born)=some e:=by rw [<- Array.find?_toList];exact find_born e es.toList hn he
 simp only [Instr.entry,getObj,Sem.run_bind,Sem.run,hi,hb,hs,Result.andThen,bne_self_eq_false,Bool.false_eq_true,if_false,hf];rfl
end Go.Abs
/-
 The abstract fS,part I1: own rows that grow.
-/
namespace Go.Abs
open Go
variable {P:Program} {n:Nat} {X:Nat->Prop} {g0:Gh} {r:aC} {h:af} {a:Act} {w:World}
theorem JV:∀ {l1 l2 m1 m2:af} {b:Nat} {o o':Ob},(keys (l1++(b,o)::l2)).Nodup->l1++(b,o)::l2=m1++(b,o')::m2->l1=m1/\l2=m2
 | [],l2,[],m2,b,o,o',hn,e=>by simp at e;exact ⟨rfl,e.2⟩
 | [],l2,y::m1,m2,b,o,o',hn,e=>by simp at e;obtain ⟨rfl,rfl⟩:=e;simp [keys] at hn
 | x::l1,l2,[],m2,b,o,o',hn,e=>by simp at e;obtain ⟨rfl,rfl⟩:=e;simp [keys] at hn
 | x::l1,l2,y::m1,m2,b,o,o',hn,e=>by
   simp at e;obtain ⟨rfl,e⟩:=e;have jz:(keys (l1++(b,o)::l2)).Nodup:=by have:keys (x::l1++(b,o)::l2)=x.1::keys (l1++(b,o)::l2):=rfl;rw [this] at hn;exact (List.nodup_cons.1 hn).2
   obtain ⟨rfl,rfl⟩:=JV jz e;exact ⟨rfl,rfl⟩
theorem CW.AM (hc:CW X g0 h w) {l:List AV} {us:List Value} {Z:Array Value} (t:TypeId) (hr:ax ⟨g0,live X h,w⟩ l us) (h1:∀ u∈us,u.oneCell'=true) :
  ∃ k g',g'.pl k=some ⟨w.heap.size,0,none⟩/\CW X g' ((k,.vec l)::h) (w.alloc (.cells (us.toArray++Z) t))/\Step X g0 h w g' ((k,.vec l)::h) (w.alloc (.cells (us.toArray++Z) t)):=by
 obtain ⟨k,f1,f2,st,mk⟩:=hc.newAt (.cells (us.toArray++Z) t) 0;refine ⟨k,_,by simp [Gh.set],mk (.vec l) ?_,st (.vec l)⟩;have hl:=hr.length;refine ⟨⟨w.heap.size,0,none⟩,us.toArray++Z,t,by simp [Gh.set],rfl,by simp [Gh.set],heap_alloc_new w _,by simp;omega,?_⟩;intro i x hx;obtain ⟨u,hu,cN⟩:=hr.get i x hx;have aI:i<us.length:=(List.getElem?_eq_some_iff.1 hu).1;refine ⟨u,?_,h1 u (List.mem_of_getElem? hu),aa.mono (Step.le (st (.vec l))) _ _ cN⟩;rw [Nat.zero_add,Array.getElem?_append_left (by simpa using aI)];simpa using hu
theorem PB {l1 l2:af} {b:Nat} {cs l:List AV} {us:List Value} {p:Addr} {N:Nat} (hc:CW X g0 (l1++(b,.vec cs)::l2) w) (hp:g0.pl b=some p) (hb:World.qm w p.block N) (hle:p.off+cs.length+l.length<=N)
  (bd:ax ⟨g0,live X (l1++(b,.vec cs)::l2),w⟩ l us) (ho:∀ u∈us,u.oneCell'=true) :
  (storeCells (⟨p.block,p.off+cs.length,none⟩:Addr) us).run P w=.ok () (w.setCells p.block (p.off+cs.length) us) /\
  World.qm (w.setCells p.block (p.off+cs.length) us) p.block N /\
   CW X g0 (l1++(b,.vec (cs++l))::l2) (w.setCells p.block (p.off+cs.length) us) /\
   Step X g0 (l1++(b,.vec cs)::l2) w g0 (l1++(b,.vec (cs++l))::l2) (w.setCells p.block (p.off+cs.length) us):=by
 have jC:=hc.obj b (.vec cs) (by simp);obtain ⟨p',cc,t,h1,h2,h3,h4,h5,h6⟩:=jC;simp only at h1 h3 h4;rw [hp] at h1;cases h1
 obtain ⟨JW,t0,f0,q1,q2⟩:=hb;rw [h4] at q1;cases q1
 have hlen:=bd.length;have iJ:p.off+cs.length+us.length<=cc.size:=(by omega);obtain ⟨eE,e1,e2,e3,e4,e5,e6,e7,e8,e9⟩:=CX p.block us (p.off+cs.length) w cc t (0,0) h4 iJ;have iL:b∈keys (l1++(b,.vec cs)::l2):=by rw [jn];exact .inl rfl
 have aF:Step X g0 (l1++(b,.vec cs)::l2) w g0 (l1++(b,.vec (cs++l))::l2) (w.setCells p.block (p.off+cs.length) us):=by
  refine ⟨e7,e8,e9,by omega,fun _ _ e=>e,fun _ _ _ e _=>e,fun _ _ _ e _=>e,fun _ _ e=>e,?_,?_,?_⟩
  ·intro aS hb hn;have aJ:aS≠p.block:=fun e=>hn b 0 (e ▸ h3) iL;refine ⟨e5 aS aJ,fun k s hk hm=>hn k s hk ?_⟩;rw [jn] at hm ⊢;exact hm
  ·intro aS k s hk hm dd tt ff eQ;by_cases e:aS=p.block
   ·subst e;rw [h3] at hk;cases hk
    rw [h4] at eQ;cases eQ
    exact ⟨eE,e1,e2,fun o ho=>by omega⟩
   exact ⟨dd,(e5 aS e).trans eQ,rfl,fun _ _=>rfl⟩
  intro aS k s hk _ k' s' bq _;rw [hk] at bq;cases bq;exact Nat.le_refl _
 refine ⟨?_,⟨eE,t,_,e1,by omega⟩,?_,aF⟩
 ·have aF:=run_storeCells_cells (P:=P) p.block (p.off+cs.length) us 0 w
   (fun j hj=>by
     simp only [Nat.add_zero];rw [cell_of_row w p.block _ cc t _ h4];have:p.off+cs.length+j<cc.size:=(by omega);simp [this])
   (fun j hj=>frozen_of_row w p.block _ cc t h4) ho
  simpa only [Nat.add_zero] using aF
 refine hc.replace aF (fun aS k s hk=>by have:=hc.own _ _ _ hk;omega) (.inl rfl) (fun k hk=>.inr hk) (fun aS s k hk=>.inr ⟨aS,s,hk⟩) ?_ ?_
 ·intro aS k s hk hm
  have aJ:aS≠p.block:=by
   intro e;rw [e,h3] at hk;cases hk
   exact hc.sY hm
  exact ⟨e5 aS aJ,rfl⟩
 refine ⟨p,eE,t,hp,h2,h3,e1,by simp;omega,?_⟩;intro i x hx;by_cases hi:i<cs.length
 ·rw [List.getElem?_append_left hi] at hx;obtain ⟨u,hu,bH,hr⟩:=h6 i x hx;exact ⟨u,by rw [e3 _ (by omega)];exact hu,bH,aa.mono (Step.le aF) _ _ hr⟩
 rw [List.getElem?_append_right (by omega)] at hx;obtain ⟨u,hu,hr⟩:=bd.get _ _ hx;have aI:i - cs.length<us.length:=(List.getElem?_eq_some_iff.1 hu).1;refine ⟨u,?_,ho u (List.mem_of_getElem? hu),aa.mono (Step.le aF) _ _ hr⟩;have:=e4 (i - cs.length) aI;rw [show p.off+cs.length+(i - cs.length)=p.off+i from by omega] at this;rw [this,<- hu,List.getElem?_eq_getElem aI]
theorem WZ {l1 l2:af} {b k n:Nat} {cs:List AV} {ys:List (List AV)} {y:AV} {u uy:Value} {t tx ty e:TypeId} {K:AV->af->Prop} {next:Act->World->Prop} {o:Oper}
  {Q:Exit->Act->World->Prop} (hc:CW X g0 (l1++(b,.vec cs)::l2) w) (ht:P.underlying t=some (.slice e)) (eX:sw P tx=true) (iO:1<=P.cellsOf e) (jY:P.bytesOf e<=4096)
  {z:List AV} (hz:jc P e=some z) (iI:z.length=P.cellsOf e) (hk:k=P.cellsOf e) (lg:rq k y=some ys) (bV:cs.length=n*k) (dS:n+ys.length<=aU)
  (hx:aa ⟨g0,live X (l1++(b,.vec cs)::l2),w⟩ (.aQ b 0 n k) u) (hy:aa ⟨g0,live X (l1++(b,.vec cs)::l2),w⟩ y uy)
  (bx:∀ s w',(Builtin.append_ #[t,tx] ty #[u,uy]).run P w=.ok s w'->(execOp a.eval o).run P w=.ok (.value s) w')
  (hK:∀ b',K (.aQ b' 0 (n+ys.length) k) (l1++(b',.vec (cs++ys.flatten))::l2)) (hn:mZ X g0 (l1++(b,.vec cs)::l2) w K o.dst a next):o.wp P a w next Q:=by
 obtain ⟨i,zv,hi,fV,fg,gz⟩:=nH (c:=⟨g0,live X (l1++(b,.vec cs)::l2),w⟩) hz;have fZ:i.size=P.cellsOf e:=(by simp [Program.cellsOf,hi]);have vE:i.bytes=P.bytesOf e:=(by simp [Program.bytesOf,hi]);have my:zv.cells.size=P.cellsOf e:=by have:=fg.length;simp at this;omega
 obtain ⟨news,n1,n2,n3,n4,n5⟩:=wW (c:=⟨g0,live X (l1++(b,.vec cs)::l2),w⟩) lg hy;have gm:news.length=ys.length*k:=(by rw [n3.length,lB n4]);obtain ⟨q,cc,tt,h1,h2,h3,h4,h5,h6⟩:=hc.obj b (.vec cs) (by simp);simp only at h1 h3 h4;rw [aa] at hx;obtain ⟨p,cap,o',hp,hs,rfl,x2,x3,x4,x5,x6,x7⟩:=hx;simp only at hp x5;rw [h1] at hp;cases hp
 by_cases jT:n+ys.length<=cap
 ·by_cases kY:cap=0
  ·have fM:n=0:=(by omega);have JX:ys=[]:=List.eq_nil_of_length_eq_zero (by omega);subst kY fM JX;have Xa:cs=[]:=List.eq_nil_of_length_eq_zero (by simpa using bV);subst Xa;have fM:news=[]:=List.eq_nil_of_length_eq_zero (by simpa using gm);subst fM;refine eh (bx _ _ (AK (m:=0) (i:=i) ht eX hi (by simpa using n1) (by simpa [fZ,hk] using n2 w rfl) (by omega) (w':=w) (fun JT _=>rfl) (fun e=>by cases e))) ?_;refine hn _ _ g0 _ _ (hK b) (by simpa using hc) ?_ (by simpa using Step.refl _ _ _ _);rw [aa];exact ⟨q,0,o',h1,h2,rfl,by simp,by simp,x4,x5,fun h=>absurd h (by omega),by unfold pb;omega⟩
  have JY:=x6 (by omega);subst JY;have hle:q.off+cs.length+ys.flatten.length<=q.off+0+cap*k:=by rw [lB n4,bV,Nat.add_assoc,<- Nat.add_mul];have:=Nat.mul_le_mul_right k jT;omega
  obtain ⟨s1,s2,s3,s4⟩:=PB (P:=P) hc h1 x5 hle n3 n5;refine eh (bx _ _ (AK (m:=ys.length) (i:=i) ht eX hi n1 (by rw [fZ,<- hk];exact n2 w rfl) jT (w':=w.setCells q.block (q.off+cs.length) news) ?_ (fun e=>by cases e))) ?_
  ·intro JT he;cases he
   have eP:(⟨q.block,q.off+0,none⟩:Addr).add (n*i.size)=⟨q.block,q.off+cs.length,none⟩:=by
    rw [bV,fZ,<- hk];unfold Addr.add;split
    ·rename_i h0;rw [h0]
    simp
   rw [eP];exact s1
  refine hn _ _ g0 _ _ (hK b) s3 ?_ s4;rw [aa];exact ⟨q,cap,0,h1,h2,rfl,jT,by unfold aw;unfold aU at dS;omega,x4,s2,fun _=>rfl,x7⟩
 have hg:cap<n+ys.length:=by omega
 -- the qo cells
 have hold:∃ dx:List Value,dx.length=cs.length/\(∀ (j:Nat) v,dx[j]?=some v->cc[q.off+j]?=some v)/\ax ⟨g0,live X (l1++(b,.vec cs)::l2),w⟩ cs dx/\∀ v∈dx,v.oneCell'=true:=by
  have key:∀ (l:List AV) (o:Nat),(∀ i x,l[i]?=some x->∃ u,cc[q.off+(o+i)]?=some u/\u.oneCell'=true/\aa ⟨g0,live X (l1++(b,.vec cs)::l2),w⟩ x u) ->
    ∃ dx:List Value,dx.length=l.length/\(∀ (j:Nat) v,dx[j]?=some v->cc[q.off+(o+j)]?=some v)/\ax ⟨g0,live X (l1++(b,.vec cs)::l2),w⟩ l dx/\∀ v∈dx,v.oneCell'=true:=by
   intro l;induction l with
   | nil=>intro o _;exact ⟨[],rfl,by simp,by simp [ax],by simp⟩
   | cons x l ih=>
     intro o hh;obtain ⟨u,a1,a2,a3⟩:=hh 0 x (by simp)
     obtain ⟨dx,b1,b2,b3,b4⟩:=ih (o+1) (fun i y hy=>by
      obtain ⟨v,c1,c2⟩:=hh (i+1) y (by simpa using hy);exact ⟨v,by rw [show o+1+i=o+(i+1) from by omega];exact c1,c2⟩)
     refine ⟨u::dx,by simp [b1],?_,by simp only [ax];exact ⟨_,_,rfl,a3,b3⟩,?_⟩
     ·intro j v hj;cases j with
      | zero=>simp at hj;subst hj;simpa using a1
      | succ j=>
        have:=b2 j v (by simpa using hj);rw [show o+(j+1)=o+1+j from by omega];exact this
     intro v hv;rcases List.mem_cons.1 hv with rfl|hv
     ·exact a2
     exact b4 v hv
  have:=key cs 0 (fun i x hx=>by simpa using h6 i x hx);simpa using this
 obtain ⟨dx,o1,o2,o3,o4⟩:=hold
 have lT:=yV (P:=P) (w:=w) (ty:=ty) (i:=i) (z:=zv) (m:=ys.length) (dx:=dx) ht eX hi fV n1 (by rw [fZ,<- hk];exact n2 w.drew rfl) (base:=some ⟨q.block,q.off+o',none⟩) (gV:=n)
  (by
    rw [fZ,<- hk];refine run_firstCells_some w.drew k n ⟨q.block,q.off+o',none⟩ n cap dx (by rw [o1,bV]) (fun j v hj=>?_);have gl:=(List.getElem?_eq_some_iff.1 hj).1;rw [o1,bV] at gl
    have jS:0<n:=by
     rcases Nat.eq_zero_or_pos n with h|h
     ·subst h;simp at gl
     exact h
    have JY:=x6 (by omega);subst JY
    have eP:(⟨q.block,q.off+0,none⟩:Addr).add j=⟨q.block,q.off+j,none⟩:=by
     unfold Addr.add;split
     ·rename_i h0;rw [h0]
     simp
    rw [eP];have:w.drew.heap[q.block]?=some (.cells cc tt (0,0)):=h4;rw [cell_of_row w.drew q.block _ cc tt _ this];exact o2 j v hj) hg dS (by omega)
 refine eh (bx _ _ lT) ?_;obtain ⟨c1,s1⟩:=hc.drew;have uu:=grownCap_ge w (n+ys.length) cap e
 obtain ⟨b',g',k1,k2,k3⟩:=c1.AM (l:=cs++ys.flatten) (us:=dx++news) (Z:=Builtin.zeroCells zv.cells (grownCap w (n+ys.length) cap e - (n+ys.length))) e
  (ax.mono (Step.le s1) _ _ (ax.append o3 n3)) (by intro v hv;rcases List.mem_append.1 hv with h|h;exact o4 v h;exact n5 v h)
 have aF:=s1.trans hc.own k3
 have gH:∀ k' o',(k',o')∈l1++(b',Ob.vec (cs++ys.flatten))::l2->(k',o')∈(b',Ob.vec (cs++ys.flatten))::(l1++(b,Ob.vec cs)::l2):=by
  intro k' o' hm;simp only [List.mem_append,List.mem_cons] at hm ⊢;rcases hm with h|h|h
  ·exact .inr (.inl h)
  ·exact .inl h
  exact .inr (.inr (.inr h))
 have er:(keys (l1++(b',Ob.vec (cs++ys.flatten))::l2)).Nodup:=by
  have er:=k2.nodup;rw [uq];simp only [keys,List.map_cons,List.map_append,List.nodup_cons,List.nodup_append,List.mem_append,List.mem_cons,not_or] at er ⊢;obtain ⟨⟨a1,a2,a3⟩,b1,⟨b2,b3⟩,b4⟩:=er;refine ⟨b1,⟨a3,b3⟩,fun x hx y hy=>?_⟩;rcases hy with rfl|hy
  ·rintro rfl;exact a1 hx
  exact b4 x hx y (.inr hy)
 obtain ⟨d1,d2⟩:=k2.sub gH er;refine hn _ _ g' _ _ (hK b') d1 ?_ (aF.trans hc.own d2);rw [aa];have tc:=grownCap_le_maxLen w (n+ys.length) cap e (by unfold maxLen;unfold aU at dS;omega);refine ⟨_,_,0,k1,rfl,rfl,uu,by unfold aw;unfold aU at dS;omega,x4,?_,fun _=>rfl,by unfold pb;unfold maxLen at tc;omega⟩;refine ⟨_,_,_,heap_alloc_new w.drew _,?_⟩;simp only [Array.size_append,List.size_toArray,size_zeroCells,my,List.length_append,gm,o1,bV,<- hk];rw [<- Nat.add_mul,<- Nat.add_mul];have:n+ys.length+(grownCap w (n+ys.length) cap e - (n+ys.length))=grownCap w (n+ys.length) cap e:=(by omega);rw [this];omega
theorem Xb {l1 l2:af} {b o:Nat} {cs l:List AV} {us:List Value} {p:Addr} {N:Nat} (hc:CW X g0 (l1++(b,.vec cs)::l2) w) (hp:g0.pl b=some p) (hb:World.qm w p.block N) (wT:o<=cs.length) (hle:p.off+o+l.length<=N)
  (bd:ax ⟨g0,live X (l1++(b,.vec cs)::l2),w⟩ l us) (ho:∀ u∈us,u.oneCell'=true) :
  (storeCells (⟨p.block,p.off+o,none⟩:Addr) us).run P w=.ok () (w.setCells p.block (p.off+o) us) /\
  (∀ M,World.qm w p.block M->World.qm (w.setCells p.block (p.off+o) us) p.block M) /\
    CW X g0 (l1++(b,.vec (dt cs o l))::l2) (w.setCells p.block (p.off+o) us) /\
    Step X g0 (l1++(b,.vec cs)::l2) w g0 (l1++(b,.vec (dt cs o l))::l2) (w.setCells p.block (p.off+o) us):=by
 have jC:=hc.obj b (.vec cs) (by simp);obtain ⟨p',cc,t,h1,h2,h3,h4,h5,h6⟩:=jC;simp only at h1 h3 h4;rw [hp] at h1;cases h1
 obtain ⟨JW,t0,f0,q1,q2⟩:=hb;rw [h4] at q1;cases q1
 have hlen:=bd.length;have iJ:p.off+o+us.length<=cc.size:=(by omega);obtain ⟨eE,e1,e2,e3,e4,e5,e6,e7,e8,e9⟩:=CX p.block us (p.off+o) w cc t (0,0) h4 iJ;have iL:b∈keys (l1++(b,.vec cs)::l2):=by rw [jn];exact .inl rfl
 have aF:Step X g0 (l1++(b,.vec cs)::l2) w g0 (l1++(b,.vec (dt cs o l))::l2) (w.setCells p.block (p.off+o) us):=by
  refine ⟨e7,e8,e9,by omega,fun _ _ e=>e,fun _ _ _ e _=>e,fun _ _ _ e _=>e,fun _ _ e=>e,?_,?_,?_⟩
  ·intro aS hb hn;have aJ:aS≠p.block:=fun e=>hn b 0 (e ▸ h3) iL;refine ⟨e5 aS aJ,fun k s hk hm=>hn k s hk ?_⟩;rw [jn] at hm ⊢;exact hm
  ·intro aS k s hk hm dd tt ff eQ;by_cases e:aS=p.block
   ·subst e;rw [h3] at hk;cases hk
    rw [h4] at eQ;cases eQ
    exact ⟨eE,e1,e2,fun o ho=>by omega⟩
   exact ⟨dd,(e5 aS e).trans eQ,rfl,fun _ _=>rfl⟩
  intro aS k s hk _ k' s' bq _;rw [hk] at bq;cases bq;exact Nat.le_refl _
 refine ⟨?_,fun M hM=>?_,?_,aF⟩
 ·have aF:=run_storeCells_cells (P:=P) p.block (p.off+o) us 0 w
   (fun j hj=>by
     simp only [Nat.add_zero];rw [cell_of_row w p.block _ cc t _ h4];have:p.off+o+j<cc.size:=(by omega);simp [this])
   (fun j hj=>frozen_of_row w p.block _ cc t h4) ho
  simpa only [Nat.add_zero] using aF
 ·obtain ⟨JW,t0,f0,q1,q3⟩:=hM;rw [h4] at q1;cases q1
  exact ⟨eE,t,_,e1,by omega⟩
 have eu:(dt cs o l).length=max cs.length (o+l.length):=by unfold dt;simp only [List.length_append,List.length_take,List.length_drop];omega
 refine hc.replace aF (fun aS k s hk=>by have:=hc.own _ _ _ hk;omega) (.inl rfl) (fun k hk=>.inr hk) (fun aS s k hk=>.inr ⟨aS,s,hk⟩) ?_ ?_
 ·intro aS k s hk hm
  have aJ:aS≠p.block:=by
   intro e;rw [e,h3] at hk;cases hk
   exact hc.sY hm
  exact ⟨e5 aS aJ,rfl⟩
 refine ⟨p,eE,t,hp,h2,h3,e1,by rw [eu];omega,?_⟩;intro i x hx;unfold dt at hx;by_cases hi:i<o
 ·rw [List.getElem?_append_left (by simp;omega),List.getElem?_append_left (by simp;omega),List.getElem?_take_of_lt hi] at hx;obtain ⟨u,hu,bH,hr⟩:=h6 i x hx;exact ⟨u,by rw [e3 _ (.inl (by omega))];exact hu,bH,aa.mono (Step.le aF) _ _ hr⟩
 by_cases aD:i<o+l.length
 ·rw [List.getElem?_append_left (by simp;omega),List.getElem?_append_right (by simp;omega)] at hx;have eS:(cs.take o).length=o:=by simp;omega
  rw [eS] at hx;obtain ⟨u,hu,hr⟩:=bd.get _ _ hx;have aI:i - o<us.length:=(List.getElem?_eq_some_iff.1 hu).1;refine ⟨u,?_,ho u (List.mem_of_getElem? hu),aa.mono (Step.le aF) _ _ hr⟩;have:=e4 (i - o) aI;rw [show p.off+o+(i - o)=p.off+i from by omega] at this;rw [this,<- hu,List.getElem?_eq_getElem aI]
 have eS:(cs.take o++l).length=o+l.length:=by simp;omega
 rw [List.getElem?_append_right (by omega),eS,List.getElem?_drop,show o+l.length+(i - (o+l.length))=i from by omega] at hx;obtain ⟨u,hu,bH,hr⟩:=h6 i x hx;exact ⟨u,by rw [e3 _ (.inr (by omega))];exact hu,bH,aa.mono (Step.le aF) _ _ hr⟩
theorem JZ {c:Cx} {cc:Array Value} {q:Addr} {cs:List AV} (h6:∀ i x,cs[i]?=some x->∃ u,cc[q.off+i]?=some u/\u.oneCell'=true/\aa c x u) :
  ∀ (l:List AV) (o:Nat),(∀ i x,l[i]?=some x->cs[o+i]?=some x) ->
   ∃ dx:List Value,dx.length=l.length/\(∀ (j:Nat) v,dx[j]?=some v->cc[q.off+(o+j)]?=some v)/\ax c l dx/\∀ v∈dx,v.oneCell'=true
 | [],o,_=>⟨[],rfl,by simp,by simp [ax],by simp⟩
 | x::l,o,hh=>by
   obtain ⟨u,a1,a2,a3⟩:=h6 o x (by simpa using hh 0 x (by simp))
   obtain ⟨dx,b1,b2,b3,b4⟩:=JZ h6 l (o+1) (fun i y hy=>by
    rw [show o+1+i=o+(i+1) from by omega];exact hh (i+1) y (by simpa using hy))
   refine ⟨u::dx,by simp [b1],?_,by simp only [ax];exact ⟨_,_,rfl,a3,b3⟩,?_⟩
   ·intro j v hj;cases j with
    | zero=>simp at hj;subst hj;simpa using a1
    | succ j=>
      have:=b2 j v (by simpa using hj);rw [show o+(j+1)=o+1+j from by omega];exact this
   intro v hv;rcases List.mem_cons.1 hv with rfl|hv
   ·exact a2
   exact b4 v hv
theorem Xc {l1 l2:af} {b k n off cap:Nat} {cs:List AV} {ys:List (List AV)} {u uy:Value} {t tx ty e:TypeId} {K:AV->af->Prop} {next:Act->World->Prop} {o:Oper}
  {Q:Exit->Act->World->Prop} (hc:CW X g0 (l1++(b,.vec cs)::l2) w) (ht:P.underlying t=some (.slice e)) (eX:sw P tx=true) (iO:1<=P.cellsOf e)
  (hk:k=P.cellsOf e) (bV:cs.length=off+n*k) (dS:n+ys.length<=aU) (jT:n+ys.length<=cap)
  (ur:∃ news:List Value,(∀ w',(Builtin.lenOf uy).run P w'=.ok ys.length w')/\(∀ w':World,w'.heap=w.heap->(Builtin.firstCells k ys.length uy).run P w'=.ok news.toArray w') /\
    ax ⟨g0,live X (l1++(b,.vec cs)::l2),w⟩ ys.flatten news/\(∀ x∈ys,x.length=k)/\(∀ v∈news,v.oneCell'=true))
  (hx:aa ⟨g0,live X (l1++(b,.vec cs)::l2),w⟩ (.eM b off n cap k) u)
  (bx:∀ s w',(Builtin.append_ #[t,tx] ty #[u,uy]).run P w=.ok s w'->(execOp a.eval o).run P w=.ok (.value s) w')
  (hK:K (.eM b off (n+ys.length) cap k) (l1++(b,.vec (cs++ys.flatten))::l2)) (hn:mZ X g0 (l1++(b,.vec cs)::l2) w K o.dst a next):o.wp P a w next Q:=by
 obtain ⟨i,hi⟩:∃ i,P.info? e=some i:=by
  cases hi:P.info? e with
  | none=>simp [Program.cellsOf,hi] at iO
  | some i=>exact ⟨i,rfl⟩
 have fZ:i.size=P.cellsOf e:=(by simp [Program.cellsOf,hi]);obtain ⟨news,n1,n2,n3,n4,n5⟩:=ur;obtain ⟨q,cc,tt,h1,h2,h3,h4,h5,h6⟩:=hc.obj b (.vec cs) (by simp);simp only at h1 h3 h4;rw [aa] at hx;obtain ⟨p,hp,hs,rfl,x2,x3,x4,x5,x6⟩:=hx;simp only at hp x5;rw [h1] at hp;cases hp
 have hle:q.off+cs.length+ys.flatten.length<=q.off+off+cap*k:=by rw [lB n4,bV];have:=Nat.mul_le_mul_right k jT;rw [Nat.add_mul] at this;omega
 obtain ⟨s1,s2,s3,s4⟩:=PB (P:=P) hc h1 x5 hle n3 n5;refine eh (bx _ _ (AK (m:=ys.length) (i:=i) ht eX hi n1 (by rw [fZ,<- hk];exact n2 w rfl) jT (w':=w.setCells q.block (q.off+cs.length) news) ?_ (fun e=>by cases e))) ?_
 ·intro JT he;cases he
  have eP:(⟨q.block,q.off+off,none⟩:Addr).add (n*i.size)=⟨q.block,q.off+cs.length,none⟩:=by
   rw [bV,fZ,<- hk];unfold Addr.add;split
   ·rename_i h0;rw [h0];simp
   simp [Nat.add_assoc]
  rw [eP];exact s1
 refine hn _ _ g0 _ _ hK s3 ?_ s4;rw [aa];exact ⟨q,h1,h2,rfl,jT,by unfold aw;unfold aU at dS;omega,x4,s2,x6⟩
theorem PC {b k n off cap:Nat} {cs:List AV} {ys:List (List AV)} {u uy:Value} {t tx ty e:TypeId} {K:AV->af->Prop} {next:Act->World->Prop} {o:Oper}
  {Q:Exit->Act->World->Prop} (hc:CW X g0 h w) (cu:(b,Ob.vec cs)∈h) (ht:P.underlying t=some (.slice e)) (eX:sw P tx=true) (iO:1<=P.cellsOf e) (jY:P.bytesOf e<=4096)
  {z:List AV} (hz:jc P e=some z) (iI:z.length=P.cellsOf e) (hk:k=P.cellsOf e) (bV:n=0\/off+n*k<=cs.length) (dS:n+ys.length<=aU) (hg:cap<n+ys.length)
  (ur:∃ news:List Value,(∀ w',(Builtin.lenOf uy).run P w'=.ok ys.length w')/\(∀ w':World,w'.heap=w.heap->(Builtin.firstCells k ys.length uy).run P w'=.ok news.toArray w') /\
    ax ⟨g0,live X h,w⟩ ys.flatten news/\(∀ x∈ys,x.length=k)/\(∀ v∈news,v.oneCell'=true))
  (hx:aa ⟨g0,live X h,w⟩ (.eM b off n cap k) u)
  (bx:∀ s w',(Builtin.append_ #[t,tx] ty #[u,uy]).run P w=.ok s w'->(execOp a.eval o).run P w=.ok (.value s) w')
  (hK:∀ q,K (.aQ q 0 (n+ys.length) k) ((q,.vec ((cs.drop off).take (n*k)++ys.flatten))::h)) (hn:mZ X g0 h w K o.dst a next):o.wp P a w next Q:=by
 obtain ⟨i,zv,hi,fV,fg,gz⟩:=nH (c:=⟨g0,live X h,w⟩) hz;have fZ:i.size=P.cellsOf e:=(by simp [Program.cellsOf,hi]);have vE:i.bytes=P.bytesOf e:=(by simp [Program.bytesOf,hi]);have my:zv.cells.size=P.cellsOf e:=by have:=fg.length;simp at this;omega
 obtain ⟨news,n1,n2,n3,n4,n5⟩:=ur;have gm:news.length=ys.length*k:=(by rw [n3.length,lB n4]);obtain ⟨q,cc,tt,h1,h2,h3,h4,h5,h6⟩:=hc.obj b (.vec cs) cu;simp only at h1 h3 h4;rw [aa] at hx;obtain ⟨p,hp,hs,rfl,x2,x3,x4,x5,x6⟩:=hx;simp only at hp x5;rw [h1] at hp;cases hp
 have gD:((cs.drop off).take (n*k)).length=n*k:=by
  rcases bV with h|h
  ·subst h;simp
  simp;omega
 obtain ⟨dx,o1,o2,o3,o4⟩:=JZ (q:=q) h6 ((cs.drop off).take (n*k)) off (fun j x hj=>by
  have gl:=(List.getElem?_eq_some_iff.1 hj).1;rw [gD] at gl;rw [List.getElem?_take_of_lt gl,List.getElem?_drop] at hj;exact hj)
 have lT:=yV (P:=P) (w:=w) (ty:=ty) (i:=i) (z:=zv) (m:=ys.length) (dx:=dx) ht eX hi fV n1 (by rw [fZ,<- hk];exact n2 w.drew rfl) (base:=some ⟨q.block,q.off+off,none⟩) (gV:=n)
  (by
    rw [fZ,<- hk];refine run_firstCells_some w.drew k n ⟨q.block,q.off+off,none⟩ n cap dx (by rw [o1,gD]) (fun j v hj=>?_)
    have eP:(⟨q.block,q.off+off,none⟩:Addr).add j=⟨q.block,q.off+(off+j),none⟩:=by
     unfold Addr.add;split
     ·rename_i h0;rw [h0];simp
     simp [Nat.add_assoc]
    rw [eP];have:w.drew.heap[q.block]?=some (.cells cc tt (0,0)):=h4;rw [cell_of_row w.drew q.block _ cc tt _ this];exact o2 j v hj) hg dS (by omega)
 refine eh (bx _ _ lT) ?_;obtain ⟨c1,s1⟩:=hc.drew;have uu:=grownCap_ge w (n+ys.length) cap e;have tc:=grownCap_le_maxLen w (n+ys.length) cap e (by unfold maxLen;unfold aU at dS;omega)
 obtain ⟨b',g',k1,k2,k3⟩:=c1.AM (l:=(cs.drop off).take (n*k)++ys.flatten) (us:=dx++news) (Z:=Builtin.zeroCells zv.cells (grownCap w (n+ys.length) cap e - (n+ys.length))) e
  (ax.mono (Step.le s1) _ _ (ax.append o3 n3)) (by intro v hv;rcases List.mem_append.1 hv with h|h;exact o4 v h;exact n5 v h)
 refine hn _ _ g' _ _ (hK b') k2 ?_ (s1.trans hc.own k3);rw [aa];refine ⟨_,_,0,k1,rfl,rfl,uu,by unfold aw;unfold aU at dS;omega,x4,?_,fun _=>rfl,by unfold pb;unfold maxLen at tc;omega⟩;refine ⟨_,_,_,heap_alloc_new w.drew _,?_⟩;simp only [Array.size_append,List.size_toArray,size_zeroCells,my,List.length_append,gm,o1,gD,<- hk];rw [<- Nat.add_mul,<- Nat.add_mul];have:n+ys.length+(grownCap w (n+ys.length) cap e - (n+ys.length))=grownCap w (n+ys.length) cap e:=(by omega);rw [this];omega
theorem Xd {b k n off cap m:Nat} {kq:IntKind} {cs:List AV} {u:Value} {t tx ty e:TypeId} {kn:IntKind} {K:AV->af->Prop} {next:Act->World->Prop} {o:Oper}
  {Q:Exit->Act->World->Prop} (hc:CW X g0 h w) (cu:(b,Ob.vec cs)∈h) (ht:P.underlying t=some (.slice e)) (eX:P.underlying tx=some (.int kn)) (iO:1<=P.cellsOf e) (jY:P.bytesOf e<=4096)
  {z:List AV} (hz:jc P e=some z) (iI:z.length=P.cellsOf e) (hk:k=P.cellsOf e) (bV:off+n*k<=cs.length) (hm:0<m) (dS:n+m<=4294967296) (hg:cap<n+m)
  (hx:aa ⟨g0,live X h,w⟩ (.eM b off n cap k) u)
  (bx:∀ s w',(Builtin.append_ #[t,tx] ty #[u,.int kq m]).run P w=.ok s w'->(execOp a.eval o).run P w=.ok (.value s) w')
  (hK:∀ q,K (.aQ q 0 (n+m) k) ((q,.vec ((cs.drop off).take (n*k)++gM m z))::h)) (hn:mZ X g0 h w K o.dst a next):o.wp P a w next Q:=by
 obtain ⟨i,zv,hi,fV,fg,gz⟩:=nH (c:=⟨g0,live X h,w⟩) hz;have fZ:i.size=P.cellsOf e:=(by simp [Program.cellsOf,hi]);have vE:i.bytes=P.bytesOf e:=(by simp [Program.bytesOf,hi]);have my:zv.cells.size=P.cellsOf e:=by have:=fg.length;simp at this;omega
 obtain ⟨q,cc,tt,h1,h2,h3,h4,h5,h6⟩:=hc.obj b (.vec cs) cu;simp only at h1 h3 h4;rw [aa] at hx;obtain ⟨p,hp,hs,rfl,x2,x3,x4,x5,x6⟩:=hx;simp only at hp x5;rw [h1] at hp;cases hp
 have gD:((cs.drop off).take (n*k)).length=n*k:=by simp;omega
 obtain ⟨dx,o1,o2,o3,o4⟩:=JZ (q:=q) h6 ((cs.drop off).take (n*k)) off (fun j x hj=>by
  have gl:=(List.getElem?_eq_some_iff.1 hj).1;rw [gD] at gl;rw [List.getElem?_take_of_lt gl,List.getElem?_drop] at hj;exact hj)
 have iJ:Builtin.nextslicecap (n+m) cap*i.bytes<=281474976710656:=by have h1:Builtin.nextslicecap (n+m) cap<=2*(n+m):=nextslicecap_le hg;exact Nat.le_trans (Nat.mul_le_mul h1 (by omega:i.bytes<=4096)) (by omega)
 have Xe:m*i.bytes<=281474976710656:=Nat.le_trans (Nat.mul_le_mul (by omega:m<=4294967296) (by omega:i.bytes<=4096)) (by omega)
 have lT:=Go.Lib.run_append_grow_zeros (P:=P) w t tx ty e i zv kq kn ht eX hi fV (some ⟨q.block,q.off+off,none⟩) n cap dx
  (by
    rw [fZ,<- hk];refine run_firstCells_some w.drew k n ⟨q.block,q.off+off,none⟩ n cap dx (by rw [o1,gD]) (fun j v hj=>?_)
    have eP:(⟨q.block,q.off+off,none⟩:Addr).add j=⟨q.block,q.off+(off+j),none⟩:=by
     unfold Addr.add;split
     ·rename_i h0;rw [h0];simp
     simp [Nat.add_assoc]
    rw [eP];have:w.drew.heap[q.block]?=some (.cells cc tt (0,0)):=h4;rw [cell_of_row w.drew q.block _ cc tt _ this];exact o2 j v hj) m hm (by omega) hg (by omega) Xe iJ
 refine eh (bx _ _ lT) ?_;obtain ⟨c1,s1⟩:=hc.drew;have uu:=grownCap_ge w (n+m) cap e;have tc:=grownCap_le_maxLen w (n+m) cap e (by unfold maxLen;omega);have Gl:(Builtin.zeroCells zv.cells m).toList=(List.replicate m zv.cells.toList).flatten:=Gi zv.cells (by omega) m;have Xf:=ax.Gj fg m
 obtain ⟨b',g',k1,k2,k3⟩:=c1.AM (l:=(cs.drop off).take (n*k)++gM m z) (us:=dx++(List.replicate m zv.cells.toList).flatten) (Z:=Builtin.zeroCells zv.cells (grownCap w (n+m) cap e - (n+m))) e
  (ax.mono (Step.le s1) _ _ (ax.append o3 Xf)) (by
    intro v hv;rcases List.mem_append.1 hv with h|h
    ·exact o4 v h
    simp only [List.mem_flatten,List.mem_replicate] at h;obtain ⟨l,⟨_,rfl⟩,hu⟩:=h;exact gz v (by simpa using hu))
 have e1:dx.toArray++Builtin.zeroCells zv.cells m=(dx++(List.replicate m zv.cells.toList).flatten).toArray:=by rw [<- Array.toList_inj];simp [Gl]
 rw [e1];refine hn _ _ g' _ _ (hK b') k2 ?_ (s1.trans hc.own k3);rw [aa];refine ⟨_,_,0,k1,rfl,rfl,uu,by unfold aw;omega,x4,?_,fun _=>rfl,by unfold pb;unfold maxLen at tc;omega⟩;refine ⟨_,_,_,heap_alloc_new w.drew _,?_⟩;have gT:(List.replicate m zv.cells.toList).flatten.length=m*k:=(by simp [my,hk]);simp only [Array.size_append,List.size_toArray,size_zeroCells,my,List.length_append,gT,o1,gD,<- hk];rw [<- Nat.add_mul,<- Nat.add_mul];have:n+m+(grownCap w (n+m) cap e - (n+m))=grownCap w (n+m) cap e:=(by omega);rw [this];omega
end Go.Abs
/-
 The abstract fS,part I: all wA Fh.
-/
namespace Go.Abs
open Go
variable {P:Program} {n:Nat} {X:Nat->Prop} {g0:Gh} {r:aC} {h:af} {a:Act} {w:World}
theorem uw {cl:Call} {t tx:TypeId} {u uy:Value} {o:Oper} {b:Array Bool} (ho:o.op=.call cl) (cR:cl.callee=.builtin .append) (bg:cl.argTypes.toList=[t,tx])
  (jM:cl.args.toList.map a.eval=[u,uy]):∀ s w',(Builtin.append_ #[t,tx] o.type #[u,uy]).run P w=.ok s w'->(execOp a.eval o).run P w=.ok (.value s) w':=by
 intro s w' hh;have h1:cl.args.map a.eval=#[u,uy]:=by rw [<- Array.toList_inj];simpa using jM
 have h2:cl.argTypes=#[t,tx]:=by rw [<- Array.toList_inj];simpa using bg
 simp [execOp,ho,resolve,cR,invoke,builtin,h1,h2,hh]
theorem PD {l1 l2:af} {b:Nat} {es vF:List (AV × AV)} {p:Addr} {al eB:Array MapEntry} {cl uz:Nat} (hc:CW X g0 (l1++(b,.map es)::l2) w) (hp:g0.pl b=some p) (ho:g0.ow p.block=some (b,0))
  (hb:w.heap[p.block]?=some (.map al cl)) (he:eN ⟨g0,live X (l1++(b,.map es)::l2),w⟩ vF eB.toList) (h1:∀ x∈eB.toList,x.born<uz) (h2:(eB.toList.map (·.born)).Nodup) :
  (setObj p.block (.map eB uz)).run P w=.ok () { w with heap:=w.heap.setIfInBounds p.block (.map eB uz) } /\
  CW X g0 (l1++(b,.map vF)::l2) { w with heap:=w.heap.setIfInBounds p.block (.map eB uz) } /\
  Step X g0 (l1++(b,.map es)::l2) w g0 (l1++(b,.map vF)::l2) { w with heap:=w.heap.setIfInBounds p.block (.map eB uz) }:=by
 have aI:p.block<w.heap.size:=(Array.getElem?_eq_some_iff.1 hb).1;have sZ:∀ aS,aS≠p.block->(w.heap.setIfInBounds p.block (.map eB uz))[aS]?=w.heap[aS]?:=fun aS aJ=>Array.getElem?_setIfInBounds_ne (Ne.symm aJ);have iL:b∈keys (l1++(b,.map es)::l2):=by rw [jn];exact .inl rfl
 have aF:Step X g0 (l1++(b,.map es)::l2) w g0 (l1++(b,.map vF)::l2) { w with heap:=w.heap.setIfInBounds p.block (.map eB uz) }:=by
  refine ⟨rfl,⟨rfl,Nat.le_refl _⟩,rfl,by simp,fun _ _ e=>e,fun _ _ _ e _=>e,fun _ _ _ e _=>e,fun _ _ e=>e,?_,?_,?_⟩
  ·intro aS aI hn;have aJ:aS≠p.block:=fun e=>hn b 0 (e ▸ ho) iL;refine ⟨sZ aS aJ,fun k s hk hm=>hn k s hk ?_⟩;rw [jn] at hm ⊢;exact hm
  ·intro aS k s hk hm dd tt ff eQ;by_cases e:aS=p.block
   ·subst e;rw [hb] at eQ;cases eQ
   exact ⟨dd,(sZ aS e).trans eQ,rfl,fun _ _=>rfl⟩
  intro aS k s hk _ k' s' bq _;rw [hk] at bq;cases bq;exact Nat.le_refl _
 refine ⟨by simp [setObj,Sem.run,hb],?_,aF⟩;refine hc.replace aF (fun aS k s hk=>by have:=hc.own _ _ _ hk;simpa using this) (.inl rfl) (fun k hk=>.inr hk) (fun aS s k hk=>.inr ⟨aS,s,hk⟩) ?_ ?_
 ·intro aS k s hk hm
  have aJ:aS≠p.block:=by
   intro e;rw [e,ho] at hk;cases hk
   exact hc.sY hm
  exact ⟨sZ aS aJ,rfl⟩
 exact ⟨p,uz,eB,hp,ho,by simp [aI],eN.mono (Step.le aF) he,h1,h2⟩
theorem eN.append {c:Cx}:∀ {es:List (AV × AV)} {al:List MapEntry} {k v:AV} {e:MapEntry},eN c es al->aa c k e.key->aa c v e.val->eN c (es++[(k,v)]) (al++[e])
 | [],al,k,v,e,h,h1,h2=>by simp [eN] at h;subst h;exact ⟨e,[],rfl,h1,h2,rfl⟩
 | x::es,al,k,v,e,h,h1,h2=>by obtain ⟨e',r,rfl,a1,a2,a3⟩:=h;exact ⟨e',r++[e],rfl,a1,a2,eN.append a3 h1 h2⟩
theorem Xg (l:List MapEntry) (j:Nat) (u v:Value):(l.modify j fun e=>{ e with key:=u,val:=v }).map (·.born)=l.map (·.born):=by
 induction l generalizing j with
 | nil=>cases j<;>rfl
 | cons y l ih=>
   cases j with
   | zero=>rfl
   | succ j=>
     rw [List.modify_succ_cons,List.map_cons,List.map_cons,ih j]
theorem yY {b2 o2 n2 k2:Nat} {cs:List AV} {ys:List (List AV)} {u:Value} (hc:CW X g0 h w) (cu:(b2,Ob.vec cs)∈h) (hu:aa ⟨g0,live X h,w⟩ (.aQ b2 o2 n2 k2) u)
  (bV:(cs.drop o2).take (n2*k2)=ys.flatten) (lX:∀ z∈ys,z.length=k2) (gI:ys.length=n2) :
  ∃ news:List Value,(∀ w',(Builtin.lenOf u).run P w'=.ok ys.length w')/\(∀ w':World,w'.heap=w.heap->(Builtin.firstCells k2 ys.length u).run P w'=.ok news.toArray w') /\
   ax ⟨g0,live X h,w⟩ ys.flatten news/\(∀ x∈ys,x.length=k2)/\(∀ v∈news,v.oneCell'=true):=by
 simp only [aa] at hu;obtain ⟨p,cap,Ka,hp,jf,rfl,x2,x3,x4,x5,x6,x7⟩:=hu;obtain ⟨q,cc,t,h1,h2,h3,h4,h5,h6⟩:=hc.obj b2 _ cu;simp only at h1 h3 h4 hp;rw [hp] at h1;cases h1
 have dP:ys.flatten.length=n2*k2:=(by rw [lB lX,gI]);have hlen:o2+n2*k2<=cs.length\/n2*k2=0:=by have:=congrArg List.length bV;rw [dP,List.length_take,List.length_drop] at this;omega
 have lD:∀ j,j<n2*k2->∃ x,ys.flatten[j]?=some x/\cc[p.off+(o2+j)]?=some (cc[p.off+(o2+j)]!)/\(cc[p.off+(o2+j)]!).oneCell'=true/\aa ⟨g0,live X h,w⟩ x (cc[p.off+(o2+j)]!):=by
  intro j hj;have eG:o2+j<cs.length:=(by omega);have hg:ys.flatten[j]?=some cs[o2+j]:=(by rw [<- bV,List.getElem?_take_of_lt hj,List.getElem?_drop,List.getElem?_eq_getElem eG]);obtain ⟨v,a1,a2,a3⟩:=h6 (o2+j) cs[o2+j] (List.getElem?_eq_getElem eG);have hv:cc[p.off+(o2+j)]! = v:=by have wX:=(Array.getElem?_eq_some_iff.1 a1).1;rw [getElem!_pos cc _ wX];exact (Array.getElem?_eq_some_iff.1 a1).2
  exact ⟨_,hg,by rw [hv];exact a1,by rw [hv];exact a2,by rw [hv];exact a3⟩
 have gm:((List.range (n2*k2)).map fun j=>cc[p.off+(o2+j)]!).length=n2*k2:=(by simp);have PE:∀ j,j<n2*k2->((List.range (n2*k2)).map fun j=>cc[p.off+(o2+j)]!)[j]?=some (cc[p.off+(o2+j)]!):=fun j hj=>by simp [hj]
 have cN:∀ {xs:List AV} {us:List Value},xs.length=us.length->(∀ (i:Nat) x u,xs[i]?=some x->us[i]?=some u->aa ⟨g0,live X h,w⟩ x u)->ax ⟨g0,live X h,w⟩ xs us:=by
  intro xs;induction xs with
  | nil=>intro us hl _;have:us=[]:=List.eq_nil_of_length_eq_zero (by simpa using hl.symm);subst this;simp [ax]
  | cons x xs ih=>
    intro us hl hh
    match us,hl with
    | v::us,hl=>
      simp only [ax];exact ⟨v,us,rfl,hh 0 x v rfl rfl,ih (by simpa using hl) fun i x u h1 h2=>hh (i+1) x u (by simpa using h1) (by simpa using h2)⟩
 refine ⟨(List.range (n2*k2)).map fun j=>cc[p.off+(o2+j)]!,fun w'=>by simp [Builtin.lenOf,gI],fun w' hw=>?_,cN (by rw [dP,gm]) fun j x v hx hv=>?_,lX,fun v hv=>?_⟩
 ·rw [gI];refine run_firstCells_some w' k2 n2 ⟨p.block,p.off+Ka,none⟩ n2 cap _ gm (fun j v hj=>?_);have eG:j<n2*k2:=by have:=(List.getElem?_eq_some_iff.1 hj).1;rw [gm] at this;exact this
  have dL:0<n2:=by
   rcases Nat.eq_zero_or_pos n2 with h|h
   ·subst h;simp at eG
   exact h
  have:=x6 (by omega);subst this;rw [PE j eG] at hj;cases hj
  obtain ⟨_,_,a1,_,_⟩:=lD j eG
  have eP:(⟨p.block,p.off+Ka,none⟩:Addr).add j=⟨p.block,p.off+(Ka+j),none⟩:=by
   unfold Addr.add;split
   ·rename_i h0;rw [h0];simp
   simp [Nat.add_assoc]
  rw [eP];simp only [World.cell?,hw,h4];simpa using a1
 ·have eG:j<n2*k2:=by have:=(List.getElem?_eq_some_iff.1 hv).1;rw [gm] at this;exact this
  rw [PE j eG] at hv;cases hv
  obtain ⟨x',b1,_,_,b4⟩:=lD j eG;rw [hx] at b1;cases b1
  exact b4
 obtain ⟨j,hj,rfl⟩:=List.mem_map.1 hv;exact (lD j (List.mem_range.1 hj)).choose_spec.2.2.1
theorem PF {r pos:Nat} {b:ByteArray} (h:w.heap[r]?=some (.stringIter b pos)):(getObj r).run P w=.ok (.stringIter b pos) w:=by simp [getObj,Sem.run,h]
theorem Xh {l1 l2:af} {b pos pos':Nat} {s:List UInt8} {bs:ByteArray} {p:Addr} (hc:CW X g0 (l1++(b,.oA s pos)::l2) w) (hp:g0.pl b=some p) (ho:g0.ow p.block=some (b,0))
  (hb:w.heap[p.block]?=some (.stringIter bs pos)) (hs:bs.data.toList=s) (hl:s.length<=aw) :
  (setObj p.block (.stringIter bs pos')).run P w=.ok () { w with heap:=w.heap.setIfInBounds p.block (.stringIter bs pos') } /\
  CW X g0 (l1++(b,.oA s pos')::l2) { w with heap:=w.heap.setIfInBounds p.block (.stringIter bs pos') } /\
  Step X g0 (l1++(b,.oA s pos)::l2) w g0 (l1++(b,.oA s pos')::l2) { w with heap:=w.heap.setIfInBounds p.block (.stringIter bs pos') }:=by
 have aI:p.block<w.heap.size:=(Array.getElem?_eq_some_iff.1 hb).1;have sZ:∀ aS,aS≠p.block->(w.heap.setIfInBounds p.block (.stringIter bs pos'))[aS]?=w.heap[aS]?:=fun aS aJ=>Array.getElem?_setIfInBounds_ne (Ne.symm aJ);have iL:b∈keys (l1++(b,.oA s pos)::l2):=by rw [jn];exact .inl rfl
 have aF:Step X g0 (l1++(b,.oA s pos)::l2) w g0 (l1++(b,.oA s pos')::l2) { w with heap:=w.heap.setIfInBounds p.block (.stringIter bs pos') }:=by
  refine ⟨rfl,⟨rfl,Nat.le_refl _⟩,rfl,by simp,fun _ _ e=>e,fun _ _ _ e _=>e,fun _ _ _ e _=>e,fun _ _ e=>e,?_,?_,?_⟩
  ·intro aS aI hn;have aJ:aS≠p.block:=fun e=>hn b 0 (e ▸ ho) iL;refine ⟨sZ aS aJ,fun k s hk hm=>hn k s hk ?_⟩;rw [jn] at hm ⊢;exact hm
  ·intro aS k s hk hm dd tt ff eQ;by_cases e:aS=p.block
   ·subst e;rw [hb] at eQ;cases eQ
   exact ⟨dd,(sZ aS e).trans eQ,rfl,fun _ _=>rfl⟩
  intro aS k s hk _ k' s' bq _;rw [hk] at bq;cases bq;exact Nat.le_refl _
 refine ⟨by simp [setObj,Sem.run,hb],?_,aF⟩;refine hc.replace aF (fun aS k s hk=>by have:=hc.own _ _ _ hk;simpa using this) (.inl rfl) (fun k hk=>.inr hk) (fun aS s k hk=>.inr ⟨aS,s,hk⟩) ?_ ?_
 ·intro aS k s hk hm
  have aJ:aS≠p.block:=by
   intro e;rw [e,ho] at hk;cases hk
   exact hc.sY hm
  exact ⟨sZ aS aJ,rfl⟩
 exact ⟨p,bs,hp,ho,by simp [aI],hs,hl⟩
theorem Kb {N:Nat} {dst:Option Tmp} {cl:Call} {ty:TypeId} {pos:String} {gO:Array Edge} {gd:Option (Nat × Bool)} {t tx e:TypeId} {b o m k n:Nat} {cs:List AV} {ys:List (List AV)} {r:aC} {h h':af} {a:Act} {w:World} {u uy:Value} {news:List Value} {K:AV->af->Prop} {next:Act->World->Prop} {Q:Exit->Act->World->Prop}
  (hc:bN N X g0 r h a w) (br:P.underlying t=some (.slice e)) (hk:k=P.cellsOf e) (cX:1<=P.cellsOf e) (hu:cO b (.vec cs) b (.vec (dt cs o ys.flatten)) h h') (h1:aa ⟨g0,live X h,w⟩ (.aQ b o m k) u)
  (cR:cl.callee=.builtin .copy) (cM:cl.argTypes.toList=[t,tx]) (e1:List.map a.eval cl.args.toList=[u,uy]) (hle:o+ys.flatten.length<=cs.length) (na:0<m)
  (hK:K (.int .i64 ys.length) h') (hn:mZ X g0 h w K dst a next) (yZ:ys.length=min n m) (hlen:∀ w',(Builtin.lenOf uy).run P w'=.ok n w')
  (iU:∀ w':World,w'.heap=w.heap->(Builtin.firstCells (P.cellsOf e) ys.length uy).run P w'=.ok news.toArray w') (cN:ax ⟨g0,live X h,w⟩ ys.flatten news) (pJ:∀ v∈news,v.oneCell'=true) :
  (⟨dst,.call cl,ty,pos,gO,gd⟩:Oper).wp P a w next Q:=by
 obtain ⟨l1,l2,rfl,rfl⟩:=cO.split hu;obtain ⟨p,cap,x1,x2,rfl,x3,x4,x5,x6,_⟩:=h1.BO na;simp only at x1;obtain ⟨q,cc,tt,p1,p2,p3,p4,p5,p6⟩:=Gf (o:=o) hc.cw hle cN pJ;rw [x1] at p1;cases p1
 refine eh (u:=goInt ys.length) (w':=w.setCells p.block (p.off+o) news) ?_ (hn (.int .i64 ys.length) _ g0 _ _ hK p5 (by
  rw [aa];refine ⟨rfl,?_⟩;unfold aw at x4;simp [IntKind.has,IntKind.min,IntKind.max,IntKind.signed,IntKind.bits];omega) p6)
 have h1:cl.args.map a.eval=#[.slice (some ⟨p.block,p.off+o,none⟩) m cap,uy]:=by rw [<- Array.toList_inj];simpa using e1
 have h2:cl.argTypes=#[t,tx]:=by rw [<- Array.toList_inj];simpa using cM
 have aF:=run_storeCells_cells (P:=P) p.block (p.off+o) news 0 w
  (fun j hj=>by
    simp only [Nat.add_zero];rw [cell_of_row w p.block (p.off+o+j) cc tt _ p3];have:p.off+o+j<cc.size:=(by omega);simp [this])
  (fun j hj=>frozen_of_row w p.block _ cc tt p3) pJ
 simp only [Nat.add_zero] at aF
 obtain ⟨i,hi,za⟩:∃ i,P.info? e=some i/\i.size=P.cellsOf e:=by
  cases hi:P.info? e with
  | none=>simp [Program.cellsOf,hi] at cX
  | some i=>exact ⟨i,rfl,by simp [Program.cellsOf,hi]⟩
 have Kc:(Builtin.copy_ #[t,tx] ty #[.slice (some ⟨p.block,p.off+o,none⟩) m cap,uy]).run P w=.ok (goInt ys.length) (w.setCells p.block (p.off+o) news):=by have hf:=iU w rfl;simp only [Builtin.copy_,List.getElem?_toArray,List.getElem?_cons_zero,List.getElem?_cons_succ,Sem.run_bind,cJ br,Result.andThen_ok,hlen,sizeOf,typeInfo,run_program,hi,za];have Kd:Nat.min n m=ys.length:=yZ.symm;simp only [Kd,Sem.run_pure,Result.andThen_ok,za,hf,aF]
 simp [execOp,resolve,cR,invoke,builtin,h1,h2,Kc]
theorem Xi {c:Cx} {b2 o2 n2 k2 m:Nat} {u2:Value} (h2:aa c (.aQ b2 o2 n2 k2) u2):(∀ w',(Builtin.lenOf u2).run P w'=.ok n2 w') /\
  ∃ rO,aa c (.aQ b2 o2 (min n2 m) k2) rO/\(∀ c j,Builtin.firstCells c j u2=Builtin.firstCells c j rO):=by
 rw [aa] at h2;obtain ⟨p,cap,o',x1,x2,rfl,x3,x4,x5,x6,x7,x8⟩:=h2;refine ⟨fun w'=>by simp [Builtin.lenOf],.slice (some ⟨p.block,p.off+o',none⟩) (min n2 m) cap,?_,fun c j=>rfl⟩;rw [aa];exact ⟨p,cap,o',x1,x2,rfl,by omega,by omega,x5,x6,x7,x8⟩
theorem PG {c:Cx} {b2 o2 n2 c2 k2 m:Nat} {u2:Value} (h2:aa c (.eM b2 o2 n2 c2 k2) u2):(∀ w',(Builtin.lenOf u2).run P w'=.ok n2 w') /\
  ∃ rO,aa c (.aQ b2 o2 (min n2 m) k2) rO/\(∀ c j,Builtin.firstCells c j u2=Builtin.firstCells c j rO):=by
 rw [aa] at h2;obtain ⟨p,x1,x2,rfl,x3,x4,x5,x6,x8⟩:=h2;refine ⟨fun w'=>by simp [Builtin.lenOf],.slice (some ⟨p.block,p.off+o2,none⟩) (min n2 m) c2,?_,fun c j=>rfl⟩;rw [aa];exact ⟨p,c2,o2,x1,x2,rfl,by omega,by omega,x5,x6,fun _=>rfl,x8⟩
theorem PH {N:Nat} {dst:Option Tmp} {cl:Call} {ty:TypeId} {pos:String} {gO:Array Edge} {gd:Option (Nat × Bool)} {t tx e:TypeId} {b o m k n c:Nat} {cs:List AV} {ys:List (List AV)} {r:aC} {h h':af} {a:Act} {w:World} {u uy:Value} {news:List Value} {K:AV->af->Prop} {next:Act->World->Prop} {Q:Exit->Act->World->Prop}
  (hc:bN N X g0 r h a w) (br:P.underlying t=some (.slice e)) (hk:k=P.cellsOf e) (cX:1<=P.cellsOf e) (hu:cO b (.vec cs) b (.vec (dt cs o ys.flatten)) h h') (h1:aa ⟨g0,live X h,w⟩ (.eM b o m c k) u)
  (cR:cl.callee=.builtin .copy) (cM:cl.argTypes.toList=[t,tx]) (e1:List.map a.eval cl.args.toList=[u,uy]) (hle:o<=cs.length) (sU:ys.flatten.length<=m*k)
  (hK:K (.int .i64 ys.length) h') (hn:mZ X g0 h w K dst a next) (yZ:ys.length=min n m) (hlen:∀ w',(Builtin.lenOf uy).run P w'=.ok n w')
  (iU:∀ w':World,w'.heap=w.heap->(Builtin.firstCells (P.cellsOf e) ys.length uy).run P w'=.ok news.toArray w') (cN:ax ⟨g0,live X h,w⟩ ys.flatten news) (pJ:∀ v∈news,v.oneCell'=true) :
  (⟨dst,.call cl,ty,pos,gO,gd⟩:Oper).wp P a w next Q:=by
 obtain ⟨l1,l2,rfl,rfl⟩:=cO.split hu;rw [aa] at h1;obtain ⟨p,x1,x2,rfl,x3,x4,x5,x6,x7⟩:=h1;simp only at x1 x6;obtain ⟨aF,_,p5,p6⟩:=Xb (P:=P) (o:=o) hc.cw x1 x6 hle (by have:=Nat.mul_le_mul_right k x3;omega) cN pJ
 refine eh (u:=goInt ys.length) (w':=w.setCells p.block (p.off+o) news) ?_ (hn (.int .i64 ys.length) _ g0 _ _ hK p5 (by
  rw [aa];refine ⟨rfl,?_⟩;unfold aw at x4;simp [IntKind.has,IntKind.min,IntKind.max,IntKind.signed,IntKind.bits];omega) p6)
 have h1:cl.args.map a.eval=#[.slice (some ⟨p.block,p.off+o,none⟩) m c,uy]:=by rw [<- Array.toList_inj];simpa using e1
 have h2:cl.argTypes=#[t,tx]:=by rw [<- Array.toList_inj];simpa using cM
 obtain ⟨i,hi,za⟩:∃ i,P.info? e=some i/\i.size=P.cellsOf e:=by
  cases hi:P.info? e with
  | none=>simp [Program.cellsOf,hi] at cX
  | some i=>exact ⟨i,rfl,by simp [Program.cellsOf,hi]⟩
 have Kc:(Builtin.copy_ #[t,tx] ty #[.slice (some ⟨p.block,p.off+o,none⟩) m c,uy]).run P w=.ok (goInt ys.length) (w.setCells p.block (p.off+o) news):=by have hf:=iU w rfl;simp only [Builtin.copy_,List.getElem?_toArray,List.getElem?_cons_zero,List.getElem?_cons_succ,Sem.run_bind,cJ br,Result.andThen_ok,hlen,sizeOf,typeInfo,run_program,hi,za];have Kd:Nat.min n m=ys.length:=yZ.symm;simp only [Kd,Sem.run_pure,Result.andThen_ok,za,hf,aF]
 simp [execOp,resolve,cR,invoke,builtin,h1,h2,Kc]
theorem Da {o:Oper} {K:AV->af->Prop} {next:Act->World->Prop} {Q:Exit->Act->World->Prop}
  (hq:cE P r h K o.op) (hc:bN n X g0 r h a w) (hn:mZ X g0 h w K o.dst a next):o.wp P a w next Q:=by
 have cx:di a []:=fun e he=>by cases he
 obtain ⟨dst,op,ty,pos,gO,gd⟩:=o;simp only at hq hn;cases op
 case binOp op t x y yt=>
  cases op<;>try (simp [cE] at hq;done)
  simp only [cE] at hq;cases hx:aK r [] x with
  | none=>simp [hx] at hq
  | some u=>
    cases u<;>try (simp [hx] at hq;done)
    rename_i k1 a1;cases k1<;>try (simp [hx] at hq;done)
    simp only [hx] at hq;cases hy:aK r [] y with
    | none=>simp [hy] at hq
    | some v=>
      cases v<;>try (simp [hy] at hq;done)
      rename_i k2 a2;cases k2<;>try (simp [hy] at hq;done)
      simp only [hy] at hq;have hu:=hc.aK cx hx;have hv:=hc.aK cx hy;rw [aa] at hu hv;obtain ⟨hu,_⟩:=hu;obtain ⟨hv,_⟩:=hv;refine eh (u:=.int .i64 (IntKind.i64.wrap (a1+a2))) (w':=w) ?_ (hn _ _ g0 _ _ hq hc.cw ?_ (Step.refl _ _ _ _))
      ·simp [execOp,hu,hv,ft,binOp,Op.intArith]
      rw [aa];refine ⟨rfl,?_⟩;constructor<;>simp [IntKind.min,IntKind.max,IntKind.wrap,IntKind.signed,IntKind.bits]<;>(try split)<;>omega
 case box t x=>
  simp only [cE] at hq;cases hx:aK r [] x with
  | none=>simp [hx] at hq
  | some v=>
    simp only [hx] at hq;cases hv:ql v with
    | none=>simp [hv] at hq
    | some l=>
      simp only [hv] at hq;split at hq
      ·have hr:=hc.aK cx hx;obtain ⟨h1,h2⟩:=Ah hv hr;obtain ⟨k,g',k1,k2,k3⟩:=hc.cw.CY t h1 h2;refine eh (u:=.pointer (some ⟨w.heap.size,0,none⟩)) (w':=w.alloc (.cells (a.eval x).cells t)) ?_ (hn _ _ g' _ _ (hq k) k2 ?_ k3)
       ·simp [execOp,Instr.box,newVar,newRow]
       rw [aa];exact ⟨_,k1,rfl,rfl⟩
      exact hq.elim
 case alloc t=>
  simp only [cE] at hq;cases hz:jc P t with
  | none=>simp [hz] at hq
  | some z=>
    simp only [hz] at hq;obtain ⟨i,zv,hi,fV,fg,gz⟩:=nH (c:=⟨g0,live X h,w⟩) hz;obtain ⟨k,g',k1,k2,k3⟩:=hc.cw.CY t fg gz;refine eh (u:=.pointer (some ⟨w.heap.size,0,none⟩)) (w':=w.alloc (.cells zv.cells t)) ?_ (hn _ _ g' _ _ (hq k) k2 ?_ k3)
    ·simp [execOp,Instr.alloc,newVar,newRow,zeroValue,typeInfo,hi,fV]
    rw [aa];exact ⟨_,k1,rfl,rfl⟩
 case store t x y=>
  simp only [cE] at hq;cases hx:aK r [] x with
  | none=>simp [hx] at hq
  | some vx=>
    have gA:=hc.aK cx hx;cases vx<;>try (simp [hx] at hq;done)
    rename_i b rA;simp only [hx] at hq;cases hy:aK r [] y with
    | none=>simp [hy] at hq
    | some v=>
      simp only [hy] at hq;cases hv:ql v with
      | none=>simp [hv] at hq
      | some l=>
        simp only [hv] at hq;split at hq<;>try contradiction
        rename_i hlen;have hlen:=Nat.eq_of_beq_eq_true hlen;obtain ⟨cs,h',hu,⟨dK,hle⟩,hK⟩:=hq;obtain ⟨l1,l2,rfl,rfl⟩:=cO.split hu;obtain ⟨r1,r2⟩:=Ah hv (hc.aK cx hy);obtain ⟨p,cc,tt,p1,p2,p3,p4,p5,p6⟩:=Gf hc.cw hle r1 (by intro u hu;exact r2 u (by simpa using hu));rw [aa] at gA;obtain ⟨p',q1,q2,q3⟩:=gA;simp only at q1;rw [p1] at q1;cases q1
        have Db:=r1.length;simp at Db;refine Fa (w':=w.setCells p.block (p.off+rA) (a.eval y).cells.toList) ?_ (hn .unit _ g0 _ _ hK p5 (by simp [aa]) p6);have:=Pv (P:=P) (w:=w) (t:=t) (b:=p.block) (o:=p.off+rA) (u:=a.eval y) (by omega) (by omega) p3 (by simp at p4;omega) r2;simp [execOp,q3,this]
 case makeMap t rr=>
  cases rr with
  | some _=>simp [cE] at hq
  | none=>
    simp only [cE] at hq;obtain ⟨k,f1,f2,st,mk⟩:=hc.cw.newAt (.map #[] 0) 0;refine eh (u:=.map (some w.heap.size)) (w':=w.alloc (.map #[] 0)) ?_ (hn _ _ _ _ _ (hq k) (mk (.map []) ?_) ?_ (st _))
    ·have hm:(Instr.makeMap t none).run P w=.ok (.map (some w.heap.size)) (w.alloc (.map #[] 0)):=rfl;simp only [execOp,Option.map_none,hm,Sem.run_bind,Result.andThen,Sem.run_pure]
    ·exact ⟨⟨w.heap.size,0,none⟩,0,#[],by simp [Gh.set],by simp [Gh.set],heap_alloc_new w _,rfl,by simp,by simp⟩
    rw [aa];exact ⟨⟨w.heap.size,0,none⟩,by simp [Gh.set],rfl⟩
 case mapUpdate t m k x=>
  simp only [cE] at hq;split at hq<;>try contradiction
  rename_i kt et bg;split at hq<;>try contradiction
  rename_i b hm;split at hq<;>try contradiction
  rename_i kv hk;split at hq<;>try contradiction
  rename_i v hv;obtain ⟨es,h',hu,⟨iJ,lD⟩,hK⟩:=hq;obtain ⟨l1,l2,rfl,rfl⟩:=cO.split hu;have Dc:=hc.aK cx hm;have uZ:=hc.aK cx hk;have nG:=hc.aK cx hv;rw [aa] at Dc;obtain ⟨p,hp,uA⟩:=Dc;obtain ⟨p',cl,al,o1,o2,o3,o4,o5,o6⟩:=hc.cw.obj b (.map es) (by simp);simp only at o1 o2 o3;rw [hp] at o1;cases o1
  have gk:=Iv (P:=P) (w:=w) iJ uZ false 9998;cases hg:rn P kt kv es with
  | none=>exact absurd hg lD
  | some r0=>
    obtain ⟨res,r1,r2⟩:=Fg (P:=P) (w:=w) iJ uZ o4 hg;cases r0 with
    | none=>
      obtain ⟨rfl,jD⟩:=r2
      obtain ⟨s1,s2,s3⟩:=PD (P:=P) (vF:=pe P kt kv v es) (eB:=al.push { key:=a.eval k,val:=a.eval x,born:=cl }) (uz:=cl+1) hc.cw hp o2 o3
       (by rw [jD v,Array.toList_push];exact eN.append o4 uZ nG)
       (by
         intro y hy;rw [Array.toList_push] at hy;rcases List.mem_append.1 hy with hy|hy
         ·have:=o5 y hy;omega
         simp at hy;subst hy;simp)
       (by
         rw [Array.toList_push,List.map_append,List.nodup_append];refine ⟨o6,by simp,?_⟩;intro q hq z hz e;simp at hz;subst hz;obtain ⟨y,hy,rfl⟩:=List.mem_map.1 hq;have:=o5 y hy;omega)
      refine Fa (w':={ w with heap:=w.heap.setIfInBounds p.block (.map (al.push { key:=a.eval k,val:=a.eval x,born:=cl }) (cl+1)) }) ?_ (hn .unit _ g0 _ _ hK s2 (by simp [aa]) s3);have qK:(getObj p.block).run P w=.ok (.map al cl) w:=(by simp [getObj,Sem.run,o3]);simp only [execOp,uA,Instr.mapUpdate,Sem.run_bind,cJ bg,Result.andThen_ok,qK,gk,r1,s1,Sem.run_pure]
    | some v0=>
      obtain ⟨j,e,rfl,q2,q3,q4,q5⟩:=r2;have PI:=Xg al.toList j (a.eval k) (a.eval x)
      obtain ⟨s1,s2,s3⟩:=PD (P:=P) (vF:=pe P kt kv v es) (eB:=al.modify j fun e=>{ e with key:=a.eval k,val:=a.eval x }) (uz:=cl) hc.cw hp o2 o3
       (q5 v (a.eval x) nG)
       (by
         intro y hy;rw [Array.toList_modify] at hy;have Xj:y.born∈al.toList.map (·.born):=by rw [<- PI];exact List.mem_map.2 ⟨y,hy,rfl⟩
         obtain ⟨z,hz,e⟩:=List.mem_map.1 Xj;have:=o5 z hz;omega)
       (by rw [Array.toList_modify,PI];exact o6)
      refine Fa (w':={ w with heap:=w.heap.setIfInBounds p.block (.map (al.modify j fun e=>{ e with key:=a.eval k,val:=a.eval x }) cl) }) ?_ (hn .unit _ g0 _ _ hK s2 (by simp [aa]) s3);have qK:(getObj p.block).run P w=.ok (.map al cl) w:=(by simp [getObj,Sem.run,o3]);have Xk:(Instr.keyThatStays e.key (a.eval k)).run P w=.ok (a.eval k) w:=(by simp [Instr.keyThatStays,q4]);simp only [execOp,uA,Instr.mapUpdate,Sem.run_bind,cJ bg,Result.andThen_ok,qK,gk,r1,q2,Option.map_some,Option.getD_some,Xk,s1,Sem.run_pure]
 case range t x=>
  simp only [cE] at hq;split at hq<;>try contradiction
  ·rename_i kt et bg;split at hq<;>try contradiction
   rename_i m hm;obtain ⟨es,cu,hK⟩:=hq;have Dc:=hc.aK cx hm;rw [aa] at Dc;obtain ⟨p,hp,uA⟩:=Dc;obtain ⟨l1,l2,rfl⟩:=List.append_of_mem cu;obtain ⟨p',bs,cl,al,o1,o2,o3,o4,o5,o6⟩:=WV hc.cw;simp only at hp;rw [hp] at o3;cases o3
   obtain ⟨h',hu,hK⟩:=hK bs cl ⟨o1,o2⟩;have hh:h'=l1++(m,.uP es bs cl)::l2:=by obtain ⟨m1,m2,e1,rfl⟩:=cO.split hu;have er:=hc.cw.nodup;obtain ⟨rfl,rfl⟩:=JV er e1;rfl
   subst hh;obtain ⟨it,f1,f2,st,mk⟩:=o5.newAt (.mapIter (some p.block) cl #[] cl) 0;refine eh (u:=.pointer (some ⟨w.heap.size,0,none⟩)) (w':=w.alloc (.mapIter (some p.block) cl #[] cl)) ?_ (hn _ _ _ _ _ (hK it) (mk _ ?_) ?_ (o6.trans hc.cw.own (st _)))
   ·have bx:=run_range_map (P:=P) w t kt et p.block al cl bg o4;simp only [execOp,uA,bx,Sem.run_bind,Result.andThen,Sem.run_pure]
   ·have aJ:m≠it:=fun e=>f1 (by rw [<- e,jn];exact .inl rfl);exact ⟨⟨w.heap.size,0,none⟩,p,#[],by simp [Gh.set],by simp [Gh.set],heap_alloc_new w _,by simp [Gh.set,aJ,hp],rfl⟩
   rw [aa];exact ⟨⟨w.heap.size,0,none⟩,by simp [Gh.set],rfl⟩
  rename_i bg;split at hq<;>try contradiction
  rename_i s hx;have gA:=hc.aK cx hx;rw [aa] at gA;obtain ⟨bs,rP,wY,eu⟩:=gA;obtain ⟨it,f1,f2,st,mk⟩:=hc.cw.newAt (.stringIter bs 0) 0;refine eh (u:=.pointer (some ⟨w.heap.size,0,none⟩)) (w':=w.alloc (.stringIter bs 0)) ?_ (hn _ _ _ _ _ (hq it) (mk _ ?_) ?_ (st _))
  ·have bx:(Instr.range t (.string bs)).run P w=.ok (.pointer (some ⟨w.heap.size,0,none⟩)) (w.alloc (.stringIter bs 0)):=by
    simp only [Instr.range,Sem.run_bind,cJ bg,Result.andThen_ok,Sem.run_pure];rfl
   simp only [execOp,rP,bx,Sem.run_bind,Result.andThen,Sem.run_pure]
  ·exact ⟨⟨w.heap.size,0,none⟩,bs,by simp [Gh.set],by simp [Gh.set],heap_alloc_new w _,wY,eu⟩
  rw [aa];exact ⟨⟨w.heap.size,0,none⟩,by simp [Gh.set],rfl⟩
 case next x sb=>
  cases sb with
  | true=>
    simp only [cE] at hq;split at hq<;>try contradiction
    rename_i it hx;obtain ⟨s,pos,cu,AN,qK⟩:=hq;have gA:=hc.aK cx hx;rw [aa] at gA;obtain ⟨p,hp,rP⟩:=gA;obtain ⟨p',bs,i1,i2,i3,i4,i5⟩:=hc.cw.obj it _ cu;simp only at i1 hp i2 i3;rw [hp] at i1;cases i1
    have iG:bs.size=s.length:=by rw [<- i4];rfl
    have wY:bs=⟨s.toArray⟩:=(by rw [<- i4]);by_cases dK:pos<s.length
    ·obtain ⟨h',hu,hK⟩:=qK dK;obtain ⟨l1,l2,rfl,rfl⟩:=cO.split hu;have PJ:Utf8.decode bs pos=kU s pos:=by rw [wY];rfl
     obtain ⟨s1,s2,s3⟩:=Xh (P:=P) (pos':=pos+(kU s pos).2) hc.cw hp i2 i3 i4 i5;refine eh (u:=.tuple #[.bool true,goInt pos,.int .i32 (kU s pos).1]) (w':={ w with heap:=w.heap.setIfInBounds p.block (.stringIter bs (pos+(kU s pos).2)) }) ?_ (hn _ _ g0 _ _ hK s2 ?_ s3)
     ·have bx:(Instr.next (.pointer (some ⟨p.block,0,none⟩)) true ty).run P w=.ok (.tuple #[.bool true,goInt pos,.int .i32 (kU s pos).1]) { w with heap:=w.heap.setIfInBounds p.block (.stringIter bs (pos+(kU s pos).2)) }:=by
       simp only [Instr.next,Sem.run_bind,PF i3,Result.andThen_ok,iG,dK,if_true,PJ,s1,Sem.run_pure]
      simp only [execOp,rP,bx,Sem.run_bind,Result.andThen,Sem.run_pure]
     rw [aa];refine ⟨_,rfl,?_⟩;simp only [ax];refine ⟨_,_,rfl,by rw [aa],_,_,rfl,by rw [aa];exact ⟨rfl,wC (by omega)⟩,_,_,rfl,?_,rfl⟩;rw [aa];refine ⟨rfl,?_⟩;have:=decode_le bs pos;rw [PJ] at this;constructor<;>simp [IntKind.min,IntKind.max,IntKind.signed,IntKind.bits]<;>omega
    have hK:=AN (by omega);refine eh (u:=.tuple #[.bool false]) (w':=w) ?_ (hn _ _ g0 _ _ hK hc.cw ?_ (Step.refl _ _ _ _))
    ·have bx:(Instr.next (.pointer (some ⟨p.block,0,none⟩)) true ty).run P w=.ok (.tuple #[.bool false]) w:=by
      simp only [Instr.next,Sem.run_bind,PF i3,Result.andThen_ok,iG,dK,if_false,Sem.run_pure]
     simp only [execOp,rP,bx,Sem.run_bind,Result.andThen,Sem.run_pure]
    rw [aa];refine ⟨_,rfl,?_⟩;simp only [ax];exact ⟨_,_,rfl,by rw [aa],rfl⟩
  | false=>
    simp only [cE] at hq;split at hq<;>try contradiction
    rename_i it hx;obtain ⟨m,cl,seen,es,bs,cu,yZ,AN,qK⟩:=hq;have gA:=hc.aK cx hx;rw [aa] at gA;obtain ⟨p,hp,rP⟩:=gA;obtain ⟨p',pm,sa,i1,i2,i3,i4,i5⟩:=hc.cw.obj it _ cu;obtain ⟨Xl,al,m1,m2,m3,m4,m5,m6,m7⟩:=hc.cw.obj m _ yZ;simp only at hp i1 i2 i3 i4 m1 m2 m3;rw [hp] at i1;cases i1
    rw [i4] at m1;cases m1
    rcases run_next_any (P:=P) (w:=w) ty p.block pm.block cl sa al i3 m3 m5 with ⟨h0,bx⟩|⟨e,he,w1,jy,bx⟩
    ·refine eh (u:=.tuple #[.bool false]) (w':=w) ?_ (hn _ _ g0 _ _ (AN ?_) hc.cw ?_ (Step.refl _ _ _ _))
     ·simp only [execOp,rP,bx,Sem.run_bind,Result.andThen,Sem.run_pure]
     ·intro b hb;rw [<- m7] at hb;obtain ⟨e,he,rfl⟩:=List.mem_map.1 hb;rw [<- i5];cases PK:sa.contains e.born with
      | true=>simpa using PK
      | false=>
        have:e∈(leftOf al sa).toList:=by unfold leftOf;rw [Array.mem_toList_iff,Array.mem_filter];exact ⟨Array.mem_toList_iff.1 he,by rw [PK];rfl⟩
        rw [show leftOf al sa=#[] by simpa using h0] at this;simp at this
     rw [aa];exact ⟨#[.bool false],rfl,by simp [ax,aa]⟩
    obtain ⟨Xm,te⟩:=mem_left he;obtain ⟨i,hi⟩:=List.getElem?_of_mem Xm;have wQ:bs[i]?=some e.born:=by rw [<- m7,List.getElem?_map,hi];rfl
    have aI:i<es.length:=by rw [eN.len m4];exact (List.getElem?_eq_some_iff.1 hi).1
    obtain ⟨x0,mz⟩:∃ x0,es[i]?=some x0:=⟨_,List.getElem?_eq_getElem aI⟩;obtain ⟨e',q1,q2,q3⟩:=eN.get m4 mz;rw [hi] at q1;cases q1
    obtain ⟨h',hu,hK⟩:=qK i e.born x0 wQ mz (by rw [<- i5];intro hm;have:sa.contains e.born=true:=(by simpa using hm);rw [te] at this;cases this);obtain ⟨l1,l2,rfl,rfl⟩:=cO.split hu;obtain ⟨s1,s2⟩:=WW (yX:=sa.push e.born) (CZ:=seen++[e.born]) hc.cw jy hp i2 i3 i4 (by simp [i5]);refine eh (u:=.tuple #[.bool true,e.key,e.val]) (w':={ w1 with heap:=w1.heap.setIfInBounds p.block (.mapIter (some pm.block) cl (sa.push e.born) cl) }) ?_ (hn _ _ g0 _ _ hK s1 ?_ s2)
    ·simp only [execOp,rP,bx,Sem.run_bind,Result.andThen,Sem.run_pure]
    rw [aa];refine ⟨_,rfl,?_⟩;simp only [ax];exact ⟨_,_,rfl,by simp [aa],_,_,rfl,aa.mono (Step.le s2) _ _ q2,_,_,rfl,aa.mono (Step.le s2) _ _ q3,rfl⟩
 case entry x=>
  simp only [cE] at hq;split at hq<;>try contradiction
  rename_i it hx;obtain ⟨m,cl,seen,es,bs,cu,yZ,i,b,x0,s0,rfl,wQ,mz,hK⟩:=hq;have gA:=hc.aK cx hx;rw [aa] at gA;obtain ⟨p,hp,rP⟩:=gA;obtain ⟨p',pm,sa,i1,i2,i3,i4,i5⟩:=hc.cw.obj it _ cu;obtain ⟨Xl,al,m1,m2,m3,m4,m5,m6,m7⟩:=hc.cw.obj m _ yZ;simp only at hp i1 i2 i3 i4 m1 m2 m3;rw [hp] at i1;cases i1
  rw [i4] at m1;cases m1
  obtain ⟨e,q1,q2,q3⟩:=eN.get m4 mz;have Gm:e.born=b:=by rw [<- m7,List.getElem?_map,q1] at wQ;simpa using wQ
  have Xn:sa.back?=some e.born:=by rw [Gm,<- Array.getLast?_toList,i5];simp
  have bx:=WY (P:=P) (w:=w) p.block pm.block cl cl sa al e i3 m3 Xn (List.mem_of_getElem? q1) m6;refine eh (u:=.tuple #[e.key,e.val]) (w':=w) ?_ (hn _ _ g0 _ _ hK hc.cw ?_ (Step.refl _ _ _ _))
  ·simp only [execOp,rP,bx,Sem.run_bind,Result.andThen,Sem.run_pure]
  rw [aa];refine ⟨_,rfl,?_⟩;simp only [ax];exact ⟨_,_,rfl,q2,_,_,rfl,q3,rfl⟩
 case makeSlice t x y=>
  simp only [cE] at hq;cases br:P.underlying t with
  | none=>simp [br] at hq
  | some d=>
  cases d<;>try (simp [br] at hq;done)
  rename_i e;simp only [br] at hq;cases hx:aK r [] x with
  | none=>simp [hx] at hq
  | some vx=>
  have gA:=hc.aK cx hx;cases vx<;>try (simp [hx] at hq;done)
  rename_i kx m;simp only [hx] at hq;cases hy:aK r [] y with
  | none=>simp [hy] at hq
  | some vy=>
  have Cb:=hc.aK cx hy;cases vy<;>try (simp [hy] at hq;done)
  rename_i ky m';simp only [hy] at hq;cases hz:jc P e with
  | none=>simp [hz] at hq
  | some z=>
  simp only [hz] at hq;split at hq<;>try contradiction
  rename_i q1;split at hq<;>try contradiction
  rename_i q2;split at hq<;>try contradiction
  rename_i q3;have q1:=Nat.eq_of_beq_eq_true q1;have q2:=Nat.le_of_ble_eq_true q2;have q3:=Nat.le_of_ble_eq_true q3;obtain ⟨⟨rfl,q4,q5⟩,hK⟩:=hq;obtain ⟨i,zv,hi,fV,fg,gz⟩:=nH (c:=⟨g0,live X h,w⟩) hz;have fZ:i.size=P.cellsOf e:=(by simp [Program.cellsOf,hi]);have vE:i.bytes=P.bytesOf e:=(by simp [Program.bytesOf,hi]);have iI:zv.cells.size=z.length:=by have:=fg.length;simpa using this
  rw [aa] at gA Cb;obtain ⟨m,rfl⟩:=Int.eq_ofNat_of_zero_le q4;have Xo:(i.bytes:Int)*(m:Int)<=281474976710656:=by have h1:i.bytes*m<=4096*4294967296:=Nat.mul_le_mul (by omega) (by omega);have h2:((i.bytes*m:Nat):Int)<=281474976710656:=(by omega);rwa [Int.natCast_mul] at h2
  have bx:=run_make (P:=P) w t e i zv br hi fV kx ky (m:Int) (m:Int) q4 (Int.le_refl _) Xo (by omega);simp only [Int.toNat_natCast] at bx hK;have PL:(madeCells zv.cells (m*i.size)).toList=(List.replicate m zv.cells.toList).flatten:=by rw [fZ,<- q1,<- iI];exact Gi zv.cells (by omega) m
  have cN:=ax.Gj fg m;rw [<- PL] at cN
  obtain ⟨k,g',k1,k2,k3⟩:=hc.cw.CY e cN (by
   intro u hu;have:u∈(List.replicate m zv.cells.toList).flatten:=by rw [<- PL];simpa using hu
   simp only [List.mem_flatten,List.mem_replicate] at this;obtain ⟨l,⟨_,rfl⟩,hu⟩:=this;exact gz u (by simpa using hu))
  refine eh (w':=w.alloc (.cells (madeCells zv.cells (m*i.size)) e)) (u:=.slice (some ⟨w.heap.size,0,none⟩) m m) ?_ (hn _ _ g' _ _ (hK k) k2 ?_ k3)
  ·simp only [execOp,gA.1,Cb.1,bx,Sem.run_bind,Result.andThen,Sem.run_pure]
  rw [aa];refine ⟨_,m,0,k1,rfl,rfl,Nat.le_refl _,by unfold aw;omega,by omega,?_,fun _=>rfl,by unfold pb;omega⟩;refine ⟨_,_,_,heap_alloc_new w _,?_⟩;simp [size_madeCells,fZ,q1]
 case buildSlice t m parts=>
  simp only [cE] at hq;cases br:P.underlying t with
  | none=>simp [br] at hq
  | some d=>
  cases d<;>try (simp [br] at hq;done)
  rename_i e;simp only [br] at hq;cases hl:iF r [] (P.cellsOf e) 0 parts.toList with
  | none=>simp [hl] at hq
  | some l=>
  simp only [hl] at hq;split at hq<;>try contradiction
  rename_i q1;split at hq<;>try contradiction
  rename_i q2;split at hq<;>try contradiction
  rename_i q3;cases hz:jc P e with
  | none=>simp [hz] at hq
  | some z=>
  simp only [hz] at hq;split at hq<;>try contradiction
  rename_i q4;have q1:=Nat.eq_of_beq_eq_true q1;have q2:=Nat.le_of_ble_eq_true q2;have q3:=Nat.le_of_ble_eq_true q3;have q4:=Nat.eq_of_beq_eq_true q4;obtain ⟨ie,zv,bC,fV,fg,uY⟩:=nH (c:=⟨g0,live X h,w⟩) hz;have iG:ie.size=P.cellsOf e:=(by simp [Program.cellsOf,bC]);have iI:zv.cells.size=P.cellsOf e:=by have:=fg.length;simp at this;omega
  have Ca:∀ u∈(Array.range (m*P.cellsOf e)).map (zv.cells[· % zv.cells.size]!),u.oneCell'=true:=by intro u hu;obtain ⟨j,hj,rfl⟩:=Array.mem_map.1 hu;have aI:j % zv.cells.size<zv.cells.size:=Nat.mod_lt _ (by omega);rw [getElem!_pos zv.cells _ aI];exact uY _ (Array.getElem_mem _)
  by_cases hm:m=0
  ·subst hm;have dF:l=[]:=List.eq_nil_of_length_eq_zero q1;subst dF
   have iH:parts.toList=[]:=by
    cases hh:parts.toList with
    | nil=>rfl
    | cons q qs=>
      rw [hh] at hl;obtain ⟨i0,x0⟩:=q;unfold iF at hl
      (repeat' split at hl)<;>simp_all
   have hD:parts=#[]:=(by simpa using iH);obtain ⟨c1,c2⟩:=hc.cw.alloc (.cells #[] e);obtain ⟨q,c3,c4⟩:=c1.Gg;refine eh (u:=.slice (some ⟨w.heap.size,0,none⟩) 0 0) (w':=w.alloc (.cells #[] e)) ?_ (hn _ _ g0 _ _ (hq q) c3 ?_ (c2.trans hc.cw.own c4))
   ·have e0:(Array.map (fun _=>(default:Value)) (Array.range 0))=#[]:=(by simp [Array.range]);simp [execOp,Instr.buildSlice,cJ br,pn bC,hD,Instr.fill,newRow,e0]
   simp only [aa];exact ⟨_,0,rfl,by simp,by simp,by omega,by simp,by simp,by simp [cm],fun _ _=>.inl rfl⟩
  obtain ⟨res,us,e1,e2,e3,e4,e5,e6,e7⟩:=Fk hc cx hl ((Array.range (m*P.cellsOf e)).map (zv.cells[· % zv.cells.size]!))
   (by
     have:∀ (ps:List (Nat × Operand)) (k:Nat) (l:List (List AV)),iF r [] (P.cellsOf e) k ps=some l->l.length=ps.length:=by
      intro ps;induction ps with
      | nil=>intro k l hh;simp [iF] at hh;subst hh;rfl
      | cons q qs ih=>
        intro k l hh;obtain ⟨i0,x0⟩:=q;unfold iF at hh;split at hh<;>try contradiction
        split at hh<;>try contradiction
        split at hh<;>try contradiction
        split at hh<;>try contradiction
        split at hh<;>try contradiction
        rename_i l' hr;cases hh
        simp [ih _ _ hr]
     have:=this _ _ _ hl;rw [Nat.zero_add,<- this,q1];simp) Ca
  have gQ:parts.toList.length=m:=(by omega);have NK:0<m*P.cellsOf e:=Nat.mul_pos (by omega) (by omega);have wD:res.toList=us:=by rw [e6];simp only [Nat.zero_mul,List.take_zero,List.nil_append,Nat.zero_add,gQ];rw [List.drop_of_length_le (by simp)];simp
  have bx:=run_buildSlice (P:=P) w t e m (parts.map fun (i,x)=>(i,a.eval x)) res ie zv br bC fV (by rw [iG];omega) (by rw [iG];omega)
   (by rw [iG];simpa using e1)
  obtain ⟨c1,c2⟩:=hc.cw.alloc (.cells res e);obtain ⟨q,c3,c4⟩:=c1.Gg;refine eh (u:=.slice (some ⟨w.heap.size,0,none⟩) m m) (w':=w.alloc (.cells res e)) ?_ (hn _ _ g0 _ _ (hq q) c3 ?_ (c2.trans hc.cw.own c4))
  ·simp [execOp,bx]
  have bV:=bA.new (t:=e) (us:=res) hc.cw (by rw [wD];exact e4) e7;simp only [aa];have NL:m<=65536:=Nat.le_trans (Nat.le_mul_of_pos_right m (by omega)) q3;refine ⟨_,m,by rw [q1],by omega,by rw [q1];unfold aw;omega,by omega,by simp,by simp,?_,fun _ _=>.inl (by rw [q1])⟩;intro ad ha;simp at ha;subst ha;exact cm.mono (Step.le c4) _ _ _ _ (cm.flat e3 bV)
 case call cl=>
  unfold cE at hq;simp only at hq;split at hq
  ·rename_i f cR;cases hl:bS r [] cl.args.toList with
   | none=>simp [hl] at hq
   | some l=>
   simp only [hl] at hq
   have bx:(execOp a.eval ⟨dst,.call cl,ty,pos,gO,gd⟩).run P w=(callFunc f (cl.args.map a.eval++#[])).run P w:=
    Fl rfl ⟨_,cR,rfl⟩
   exact Fj (us:=cl.args.map a.eval) hq hc.cw (by simpa using hc.bS cx hl) (by simpa using bx) hn
  ·rename_i t cR;cases hx:aK r [] (.tmp t) with
   | none=>simp [hx] at hq
   | some x=>
   cases x<;>try (simp [hx] at hq;done)
   rename_i f bF;simp only [hx] at hq;cases hl:bS r [] cl.args.toList with
   | none=>simp [hl] at hq
   | some l=>
   simp only [hl] at hq;have hr:=hc.aK cx hx;rw [aa] at hr;obtain ⟨us,yj,bd⟩:=hr
   have bx:(execOp a.eval ⟨dst,.call cl,ty,pos,gO,gd⟩).run P w=(callFunc f (cl.args.map a.eval++us)).run P w:=
    Fl rfl ⟨_,cR,yj⟩
   exact Fj hq hc.cw (by simpa using ax.append (hc.bS cx hl) bd) bx hn
  ·rename_i cR;split at hq<;>try contradiction
   rename_i t tx cM;split at hq<;>try contradiction
   rename_i e br eX;split at hq<;>try contradiction
   rename_i cX;split at hq<;>try contradiction
   rename_i jY;split at hq<;>try contradiction
   rename_i z hz;split at hq<;>try contradiction
   rename_i iI;have cX:=Nat.le_of_ble_eq_true cX;have jY:=Nat.le_of_ble_eq_true jY;have iI:=Nat.eq_of_beq_eq_true iI;split at hq<;>try contradiction
   ·rename_i b2 o2 n2 k2 hl;split at hq<;>try contradiction
    rename_i bw;have bw:=Nat.eq_of_beq_eq_true bw;obtain ⟨eF,ys,cu,⟨bV,lX,gI⟩,⟨dK,dS⟩,hK⟩:=hq;have ca:=hc.bS cx hl;simp only [ax] at ca;obtain ⟨u,rr,e1,h1,u2,pL,e2,h2,h3⟩:=ca;subst e2 h3;rw [aa] at h1;subst h1;have bx:=uw (P:=P) (a:=a) (w:=w) (o:=⟨dst,.call cl,ty,pos,gO,gd⟩) (b:=#[]) rfl cR cM e1;obtain ⟨i,zv,hi,fV,fg,gz⟩:=nH (c:=⟨g0,live X h,w⟩) hz;have fZ:i.size=P.cellsOf e:=(by simp [Program.cellsOf,hi]);have vE:i.bytes=P.bytesOf e:=(by simp [Program.bytesOf,hi]);have my:zv.cells.size=P.cellsOf e:=by have:=fg.length;simp at this;omega
    obtain ⟨news,n1,Xp,n3,n4,n5⟩:=yY (P:=P) hc.cw cu h2 bV lX gI;have gm:news.length=ys.length*k2:=by rw [n3.length,lB n4]
    have lT:=yV (P:=P) (w:=w) (ty:=ty) (i:=i) (z:=zv) (m:=ys.length) (gV:=0) (mw:=0) (base:=none) (dx:=[]) br eX hi fV n1 (by rw [fZ,<- bw];exact Xp w.drew rfl)
     (by simp [Builtin.firstCells]) (by omega) (by omega) (by omega)
    refine eh (bx _ _ lT) ?_;obtain ⟨c1,s1⟩:=hc.cw.drew;have uu:=grownCap_ge w (0+ys.length) 0 e;have tc:=grownCap_le_maxLen w (0+ys.length) 0 e (by unfold maxLen;unfold aU at dS;omega)
    obtain ⟨b',g',k1,Xq,k3⟩:=c1.AM (l:=ys.flatten) (us:=[]++news) (Z:=Builtin.zeroCells zv.cells (grownCap w (0+ys.length) 0 e - (0+ys.length))) e
     (ax.mono (Step.le s1) _ _ (by simpa using n3)) (by simpa using n5)
    refine hn _ _ g' _ _ (hK b') Xq ?_ (s1.trans hc.cw.own k3);rw [aa];refine ⟨_,grownCap w (0+ys.length) 0 e,0,k1,rfl,by rw [Nat.zero_add,gI];rfl,by omega,by unfold aw;unfold aU at dS;omega,by omega,?_,fun _=>rfl,by unfold pb;unfold maxLen at tc;omega⟩;refine ⟨_,_,_,heap_alloc_new w.drew _,?_⟩;simp only [Array.size_append,List.size_toArray,size_zeroCells,my,List.length_append,gm,List.length_nil];have e3:ys.length*k2+(grownCap w (0+ys.length) 0 e - (0+ys.length))*k2=grownCap w (0+ys.length) 0 e*k2:=by rw [<- Nat.add_mul];congr 1;omega
    rw [bw] at e3 ⊢;simp only [Nat.zero_add] at e3 ⊢;omega
   ·rename_i b off n' c k b2 o2 n2 k2 hl;split at hq<;>try contradiction
    rename_i hk bw;have hk:=Nat.eq_of_beq_eq_true hk;have bw:=Nat.eq_of_beq_eq_true bw;subst bw;obtain ⟨eF,ys,Xr,⟨Cw,lX,gI⟩,dS,cs,cu,hq⟩:=hq;have ca:=hc.bS cx hl;simp only [ax] at ca;obtain ⟨u,rr,e1,h1,u2,pL,e2,h2,h3⟩:=ca;subst e2 h3;have bx:=uw (P:=P) (a:=a) (w:=w) (o:=⟨dst,.call cl,ty,pos,gO,gd⟩) (b:=#[]) rfl cR cM e1;have ur:=yY (P:=P) hc.cw Xr h2 Cw lX gI;subst gI;rcases hq with ⟨jT,bV,h',hu,hK⟩|⟨hg,bV,hK⟩
    ·obtain ⟨l1,l2,rfl,rfl⟩:=cO.split hu;exact Xc hc.cw br eX cX hk bV dS jT ur h1 bx hK hn
    exact PC hc.cw cu br eX cX jY hz iI hk bV dS hg ur h1 bx hK hn
   ·rename_i y hl;split at hq<;>try contradiction
    rename_i ys lg;obtain ⟨dS,hK⟩:=hq;have ca:=hc.bS cx hl;simp only [ax] at ca;obtain ⟨u,rr,e1,h1,u2,pL,e2,h2,h3⟩:=ca;subst e2 h3;rw [aa] at h1;subst h1;have bx:=uw (P:=P) (a:=a) (w:=w) (o:=⟨dst,.call cl,ty,pos,gO,gd⟩) (b:=#[]) rfl cR cM e1;obtain ⟨i,zv,hi,fV,fg,gz⟩:=nH (c:=⟨g0,live X h,w⟩) hz;have fZ:i.size=P.cellsOf e:=(by simp [Program.cellsOf,hi]);have vE:i.bytes=P.bytesOf e:=(by simp [Program.bytesOf,hi]);have my:zv.cells.size=P.cellsOf e:=by have:=fg.length;simp at this;omega
    obtain ⟨news,n1,n2,n3,n4,n5⟩:=wW (c:=⟨g0,live X h,w⟩) lg h2;have gm:news.length=ys.length*P.cellsOf e:=(by rw [n3.length,lB n4]);by_cases hm:ys=[]
    ·subst hm;have fM:news=[]:=List.eq_nil_of_length_eq_zero (by rw [gm];simp);subst fM;obtain ⟨q,c1,c2⟩:=hc.cw.Gg;refine eh (w':=w) (bx _ _ (AK (w':=w) (m:=0) (i:=i) br eX hi (by simpa using n1) (by simpa [fZ] using n2 w rfl) (by omega) (by simp) (fun _=>rfl))) ?_;refine hn _ _ g0 _ w (hK q) c1 ?_ c2;simp only [aa];exact ⟨none,0,by simp,by simp,by simp,by omega,by simp,by simp,by simp,fun _ _=>.inl rfl⟩
    have dK:0<ys.length:=List.length_pos_iff.2 hm
    have lT:=yV (P:=P) (w:=w) (ty:=ty) (i:=i) (z:=zv) (m:=ys.length) (gV:=0) (mw:=0) (base:=none) (dx:=[]) br eX hi fV n1 (by rw [fZ];exact n2 w.drew rfl)
     (by simp [Builtin.firstCells]) (by omega) (by omega) (by omega)
    refine eh (bx _ _ lT) ?_
    have dV:=Px (xs:=ys) (us:=news) (k:=P.cellsOf e) (e:=e)
     (cap:=grownCap w (0+ys.length) 0 e) (Z:=Builtin.zeroCells zv.cells (grownCap w (0+ys.length) 0 e - (0+ys.length)))
     hc.cw n3 n4 n5 (by omega) dS (by have:=grownCap_ge w (0+ys.length) 0 e;omega) ?_ hK hn
    ·simpa using dV
    have:=grownCap_ge w (0+ys.length) 0 e;rw [size_zeroCells,my,gm,<- Nat.add_mul];congr 1;omega
   ·rename_i y hl;split at hq<;>try contradiction
    rename_i ys lg;obtain ⟨⟨dK,dS⟩,hK⟩:=hq;have ca:=hc.bS cx hl;simp only [ax] at ca;obtain ⟨u,rr,e1,h1,u2,pL,e2,h2,h3⟩:=ca;subst e2 h3;rw [aa] at h1;subst h1;have bx:=uw (P:=P) (a:=a) (w:=w) (o:=⟨dst,.call cl,ty,pos,gO,gd⟩) (b:=#[]) rfl cR cM e1;obtain ⟨i,zv,hi,fV,fg,gz⟩:=nH (c:=⟨g0,live X h,w⟩) hz;have fZ:i.size=P.cellsOf e:=(by simp [Program.cellsOf,hi]);have vE:i.bytes=P.bytesOf e:=(by simp [Program.bytesOf,hi]);have my:zv.cells.size=P.cellsOf e:=by have:=fg.length;simp at this;omega
    obtain ⟨news,n1,n2,n3,n4,n5⟩:=wW (c:=⟨g0,live X h,w⟩) lg h2;have gm:news.length=ys.length*P.cellsOf e:=by rw [n3.length,lB n4]
    have lT:=yV (P:=P) (w:=w) (ty:=ty) (i:=i) (z:=zv) (m:=ys.length) (gV:=0) (mw:=0) (base:=none) (dx:=[]) br eX hi fV n1 (by rw [fZ];exact n2 w.drew rfl)
     (by simp [Builtin.firstCells]) (by omega) (by omega) (by omega)
    refine eh (bx _ _ lT) ?_;obtain ⟨c1,s1⟩:=hc.cw.drew;have uu:=grownCap_ge w (0+ys.length) 0 e
    obtain ⟨b',g',k1,k2,k3⟩:=c1.AM (l:=ys.flatten) (us:=[]++news) (Z:=Builtin.zeroCells zv.cells (grownCap w (0+ys.length) 0 e - (0+ys.length))) e
     (ax.mono (Step.le s1) _ _ (by simpa using n3)) (by simpa using n5)
    refine hn _ _ g' _ _ (hK b') k2 ?_ (s1.trans hc.cw.own k3);rw [aa];have tc:=grownCap_le_maxLen w (0+ys.length) 0 e (by unfold maxLen;unfold aU at dS;omega);refine ⟨_,grownCap w (0+ys.length) 0 e,0,k1,rfl,by rw [Nat.zero_add];rfl,by omega,by unfold aw;unfold aU at dS;omega,cX,?_,fun _=>rfl,by unfold pb;unfold maxLen at tc;omega⟩;refine ⟨_,_,_,heap_alloc_new w.drew _,?_⟩;simp only [Array.size_append,List.size_toArray,size_zeroCells,my,List.length_append,gm,List.length_nil];have e3:ys.length*P.cellsOf e+(grownCap w (0+ys.length) 0 e - (0+ys.length))*P.cellsOf e=grownCap w (0+ys.length) 0 e*P.cellsOf e:=by rw [<- Nat.add_mul];congr 1;omega
    simp only [Nat.zero_add] at e3 ⊢;omega
   ·rename_i b n' k y hl;split at hq<;>try contradiction
    rename_i hk;have hk:=Nat.eq_of_beq_eq_true hk;split at hq<;>try contradiction
    rename_i ys lg;obtain ⟨cs,cu,⟨bV,dS⟩,hK⟩:=hq;have ca:=hc.bS cx hl;simp only [ax] at ca;obtain ⟨u,rr,e1,h1,u2,pL,e2,h2,h3⟩:=ca;subst e2 h3;have bx:=uw (P:=P) (a:=a) (w:=w) (o:=⟨dst,.call cl,ty,pos,gO,gd⟩) (b:=#[]) rfl cR cM e1;obtain ⟨l1,l2,rfl⟩:=List.append_of_mem cu;refine WZ hc.cw br eX cX jY hz iI hk lg bV dS h1 h2 bx (fun b'=>?_) hn;obtain ⟨h',hu,hK⟩:=hK b';obtain ⟨m1,m2,e1,rfl⟩:=cO.split hu;obtain ⟨rfl,rfl⟩:=JV hc.cw.nodup e1;exact hK
   ·rename_i k q xs b2 o2 n2 k2 hl;split at hq<;>try contradiction
    rename_i hk bw;have hk:=Nat.eq_of_beq_eq_true hk;have bw:=Nat.eq_of_beq_eq_true bw;subst bw;obtain ⟨cs,ys,cu,⟨bV,lX,gI⟩,dS,hK⟩:=hq;have ca:=hc.bS cx hl;simp only [ax] at ca;obtain ⟨u,rr,e1,h1,u2,pL,e2,h2,h3⟩:=ca;subst e2 h3;have bx:=uw (P:=P) (a:=a) (w:=w) (o:=⟨dst,.call cl,ty,pos,gO,gd⟩) (b:=#[]) rfl cR cM e1;obtain ⟨h',hu,_⟩:=hK 0;have ur:=yY (P:=P) hc.cw cu h2 bV lX gI;obtain ⟨l1,l2,rfl,_⟩:=cO.split hu;exact Pz hc.cw br eX cX jY hz iI hk ur dS h1 bx hK hn
   ·rename_i k q xs y hl;split at hq<;>try contradiction
    rename_i hk;have hk:=Nat.eq_of_beq_eq_true hk;split at hq<;>try contradiction
    rename_i ys lg;obtain ⟨dS,hK⟩:=hq;have ca:=hc.bS cx hl;simp only [ax] at ca;obtain ⟨u,rr,e1,h1,u2,pL,e2,h2,h3⟩:=ca;subst e2 h3;have bx:=uw (P:=P) (a:=a) (w:=w) (o:=⟨dst,.call cl,ty,pos,gO,gd⟩) (b:=#[]) rfl cR cM e1;obtain ⟨h',hu,_⟩:=hK 0;obtain ⟨l1,l2,rfl,_⟩:=cO.split hu;exact WU hc.cw br eX cX jY hz iI hk lg dS h1 h2 bx hK hn
   rename_i e br eX;split at hq<;>try contradiction
   rename_i kn Xs;split at hq<;>try contradiction
   rename_i cX;split at hq<;>try contradiction
   rename_i jY;split at hq<;>try contradiction
   rename_i z hz;split at hq<;>try contradiction
   rename_i iI;split at hq<;>try contradiction
   rename_i b off n' c k kq m hl;split at hq<;>try contradiction
   rename_i hk;have cX:=Nat.le_of_ble_eq_true cX;have jY:=Nat.le_of_ble_eq_true jY;have iI:=Nat.eq_of_beq_eq_true iI;have hk:=Nat.eq_of_beq_eq_true hk;obtain ⟨cs,cu,⟨na,hg,dS,bV⟩,hK⟩:=hq;have ca:=hc.bS cx hl;simp only [ax] at ca;obtain ⟨u,rr,e1,h1,u2,pL,e2,h2,h3⟩:=ca;subst e2 h3;rw [aa] at h2;obtain ⟨rfl,_⟩:=h2;have bx:=uw (P:=P) (a:=a) (w:=w) (o:=⟨dst,.call cl,ty,pos,gO,gd⟩) (b:=#[]) rfl cR cM e1;obtain ⟨m,rfl⟩:=Int.eq_ofNat_of_zero_le (Int.le_of_lt na);exact Xd hc.cw cu br Xs cX jY hz iI hk bV (by omega) (by omega) (by omega) h1 bx hK hn
  ·rename_i cR;split at hq<;>try contradiction
   rename_i t tx cM;split at hq<;>try contradiction
   rename_i e br;split at hq<;>try contradiction
   ·rename_i b o m k b2 o2 n2 k2 hl;split at hq<;>try contradiction
    rename_i hk bw cX;have hk:=Nat.eq_of_beq_eq_true hk;have bw:=Nat.eq_of_beq_eq_true bw;have cX:=Nat.le_of_ble_eq_true cX;subst bw;obtain ⟨eF,ys,cu,⟨bV,lX,gI⟩,cs,h',hu,⟨dK,hle⟩,hK⟩:=hq;have ca:=hc.bS cx hl;simp only [ax] at ca;obtain ⟨u,rr,e1,h1,u2,pL,e2,h2,h3⟩:=ca;subst e2 h3;have ug:∃ rO,aa ⟨g0,live X h,w⟩ (.aQ b2 o2 (min n2 m) k2) rO/\(∀ w',(Builtin.lenOf u2).run P w'=.ok n2 w')/\(∀ c j,Builtin.firstCells c j u2=Builtin.firstCells c j rO):=by rw [aa] at h2;obtain ⟨p,cap,o',x1,x2,rfl,x3,x4,x5,x6,x7,x8⟩:=h2;refine ⟨.slice (some ⟨p.block,p.off+o',none⟩) (min n2 m) cap,?_,fun w'=>by simp [Builtin.lenOf],fun c j=>rfl⟩;rw [aa];exact ⟨p,cap,o',x1,x2,rfl,by omega,by omega,x5,x6,x7,x8⟩
    obtain ⟨rO,r1,r2,r3⟩:=ug;obtain ⟨news,n1,n3,n4,n5,n6⟩:=yY (P:=P) hc.cw cu r1 bV lX gI;exact Kb hc br hk cX hu h1 cR cM e1 hle (by omega) (by rw [gI];exact hK) hn (n:=n2) gI r2 (fun w' hw=>by rw [r3,<- hk];exact n3 w' hw) n4 n6
   ·rename_i b o m k b2 o2 n2 c2 k2 hl;split at hq<;>try contradiction
    rename_i hk bw cX;have hk:=Nat.eq_of_beq_eq_true hk;have bw:=Nat.eq_of_beq_eq_true bw;have cX:=Nat.le_of_ble_eq_true cX;subst bw;obtain ⟨eF,ys,cu,⟨bV,lX,gI⟩,cs,h',hu,⟨dK,hle⟩,hK⟩:=hq;have ca:=hc.bS cx hl;simp only [ax] at ca;obtain ⟨u,rr,e1,h1,u2,pL,e2,h2,h3⟩:=ca;subst e2 h3;obtain ⟨r2,rO,r1,r3⟩:=PG (P:=P) (m:=m) h2;obtain ⟨news,n1,n3,n4,n5,n6⟩:=yY (P:=P) hc.cw cu r1 bV lX gI;exact Kb hc br hk cX hu h1 cR cM e1 hle (by omega) (by rw [gI];exact hK) hn (n:=n2) gI r2 (fun w' hw=>by rw [r3,<- hk];exact n3 w' hw) n4 n6
   ·rename_i b o m c k b2 o2 n2 c2 k2 hl;split at hq<;>try contradiction
    rename_i hk bw cX;have hk:=Nat.eq_of_beq_eq_true hk;have bw:=Nat.eq_of_beq_eq_true bw;have cX:=Nat.le_of_ble_eq_true cX;subst bw;obtain ⟨eF,ys,cu,⟨bV,lX,gI⟩,cs,h',hu,⟨dK,hle⟩,hK⟩:=hq;have ca:=hc.bS cx hl;simp only [ax] at ca;obtain ⟨u,rr,e1,h1,u2,pL,e2,h2,h3⟩:=ca;subst e2 h3;obtain ⟨r2,rO,r1,r3⟩:=PG (P:=P) (m:=m) h2;obtain ⟨news,n1,n3,n4,n5,n6⟩:=yY (P:=P) hc.cw cu r1 bV lX gI;exact PH hc br hk cX hu h1 cR cM e1 hle (by rw [lB lX];exact Nat.mul_le_mul_right _ (by omega)) (by rw [gI];exact hK) hn (n:=n2) gI r2 (fun w' hw=>by rw [r3,<- hk];exact n3 w' hw) n4 n6
   ·rename_i b o m c k b2 o2 n2 k2 hl;split at hq<;>try contradiction
    rename_i hk bw cX;have hk:=Nat.eq_of_beq_eq_true hk;have bw:=Nat.eq_of_beq_eq_true bw;have cX:=Nat.le_of_ble_eq_true cX;subst bw;obtain ⟨eF,ys,cu,⟨bV,lX,gI⟩,cs,h',hu,⟨dK,hle⟩,hK⟩:=hq;have ca:=hc.bS cx hl;simp only [ax] at ca;obtain ⟨u,rr,e1,h1,u2,pL,e2,h2,h3⟩:=ca;subst e2 h3;obtain ⟨r2,rO,r1,r3⟩:=Xi (P:=P) (m:=m) h2;obtain ⟨news,n1,n3,n4,n5,n6⟩:=yY (P:=P) hc.cw cu r1 bV lX gI;exact PH hc br hk cX hu h1 cR cM e1 hle (by rw [lB lX];exact Nat.mul_le_mul_right _ (by omega)) (by rw [gI];exact hK) hn (n:=n2) gI r2 (fun w' hw=>by rw [r3,<- hk];exact n3 w' hw) n4 n6
   rename_i b o m k y _ _ hl;split at hq<;>try contradiction
   rename_i hk cX;have hk:=Nat.eq_of_beq_eq_true hk;have cX:=Nat.le_of_ble_eq_true cX;split at hq<;>try contradiction
   rename_i ys lg;obtain ⟨cs,h',hu,⟨dK,V7,hle⟩,hK⟩:=hq;have ca:=hc.bS cx hl;simp only [ax] at ca;obtain ⟨u,rr,e1,h1,u2,pL,e2,h2,h3⟩:=ca;subst e2 h3;obtain ⟨news,n1,n2,n3,n4,n5⟩:=wW (P:=P) (c:=⟨g0,live X h,w⟩) lg h2;exact Kb hc br hk cX hu h1 cR cM e1 hle (by omega) hK hn (n:=ys.length) (by omega) n1 (fun w' hw=>by rw [<- hk];exact n2 w' hw) n3 n5
  ·rename_i cR;split at hq<;>try contradiction
   rename_i t cM;split at hq<;>try contradiction
   rename_i e br;split at hq<;>try contradiction
   rename_i z hz;split at hq<;>try contradiction
   rename_i b o m k hl;split at hq<;>try contradiction
   rename_i Ke;have Ke:=Nat.eq_of_beq_eq_true Ke;obtain ⟨cs,h',hu,⟨dK,hle⟩,hK⟩:=hq;obtain ⟨l1,l2,rfl,rfl⟩:=cO.split hu;have ca:=hc.bS cx hl;simp only [ax] at ca;obtain ⟨u,rr,e1,h1,e2⟩:=ca;subst e2;obtain ⟨p,cap,x1,x2,rfl,x3,x4,x5,x6,_⟩:=h1.BO dK;simp only at x1;obtain ⟨i,zv,hi,fV,fg,gz⟩:=nH (c:=⟨g0,live X (l1++(b,.vec cs)::l2),w⟩) hz;have my:zv.cells.size=k:=by have:=fg.length;simp at this;omega
   have cN:=ax.Gj fg m;have PM:(gM m z).length=m*k:=by unfold gM;simp [Ke]
   have gT:(List.replicate m zv.cells.toList).flatten.length=m*k:=by simp [my]
   obtain ⟨q,cc,tt,p1,p2,p3,p4,p5,p6⟩:=Gf (o:=o) hc.cw (by omega) cN (by
    intro u hu;simp only [List.mem_flatten,List.mem_replicate] at hu;obtain ⟨l,⟨_,rfl⟩,hu⟩:=hu;exact gz u (by simpa using hu))
   rw [x1] at p1;cases p1
   refine eh (u:=.tuple #[]) (w':=w.setCells p.block (p.off+o) (List.replicate m zv.cells.toList).flatten) ?_ (hn (.aH []) _ g0 _ _ hK p5 (by rw [aa];exact ⟨#[],rfl,by simp [ax]⟩) p6);have h1:cl.args.map a.eval=#[.slice (some ⟨p.block,p.off+o,none⟩) m cap]:=by rw [<- Array.toList_inj];simpa using e1
   have h2:cl.argTypes=#[t]:=by rw [<- Array.toList_inj];simpa using cM
   have aF:=run_storeCells_cells (P:=P) p.block (p.off+o) (List.replicate m zv.cells.toList).flatten 0 w
    (fun j hj=>by
      simp only [Nat.add_zero];rw [cell_of_row w p.block (p.off+o+j) cc tt _ p3];have:p.off+o+j<cc.size:=(by omega);simp [this])
    (fun j hj=>frozen_of_row w p.block _ cc tt p3) (fun v hv=>by
      simp only [List.mem_flatten,List.mem_replicate] at hv;obtain ⟨l,⟨_,rfl⟩,hu⟩:=hv;exact gz v (by simpa using hu))
   simp only [Nat.add_zero] at aF;have Gl:(Builtin.zeroCells zv.cells m).toList=(List.replicate m zv.cells.toList).flatten:=Gi zv.cells (by omega) m;obtain ⟨m',rfl⟩:∃ m',m=m'+1:=⟨m - 1,by omega⟩;have Xt:(zeroValue e).run P w=.ok zv w:=(by simp [zeroValue,typeInfo,hi,fV]);have bz:(Builtin.clear_ #[t] ty #[.slice (some ⟨p.block,p.off+o,none⟩) (m'+1) cap]).run P w=.ok (.tuple #[]) (w.setCells p.block (p.off+o) (List.replicate (m'+1) zv.cells.toList).flatten):=(by simp only [Builtin.clear_,List.getElem?_toArray,List.getElem?_cons_zero,Sem.run_bind,cJ br,Result.andThen_ok,Xt,Gl,aF,Sem.run_pure]);simp [execOp,resolve,cR,invoke,builtin,h1,h2,bz]
  exact hq.elim
 all_goals (simp [cE] at hq)
theorem Xu {o:Oper} {cl:Call} {K:AV->af->Prop} {next:Act->World->Prop} {Q:Exit->Act->World->Prop} (dq:o.op=.call cl)
  (hq:uS P r h K cl) (hc:bN n X g0 r h a w) (hn:mZ X g0 h w K o.dst a next):o.wp P a w next Q:=by
 have cx:di a []:=fun e he=>by cases he
 obtain ⟨dst,op,ty,pos,gO,gd⟩:=o;simp only at dq hn;subst dq;unfold uS at hq;split at hq<;>try contradiction
 rename_i cR;split at hq<;>try contradiction
 rename_i t tx cM;split at hq<;>try contradiction
 rename_i e br eX;split at hq<;>try contradiction
 rename_i cX;split at hq<;>try contradiction
 rename_i jY;split at hq<;>try contradiction
 rename_i z hz;split at hq<;>try contradiction
 rename_i iI;have cX:=Nat.le_of_ble_eq_true cX;have jY:=Nat.le_of_ble_eq_true jY;have iI:=Nat.eq_of_beq_eq_true iI;split at hq<;>try contradiction
 ·rename_i y hl;split at hq<;>try contradiction
  rename_i ys lg;obtain ⟨⟨dK,dS⟩,hK⟩:=hq;have ca:=hc.bS cx hl;simp only [ax] at ca;obtain ⟨u,rr,e1,h1,u2,pL,e2,h2,h3⟩:=ca;subst e2 h3;rw [aa] at h1;subst h1;have bx:=uw (P:=P) (a:=a) (w:=w) (o:=⟨dst,.call cl,ty,pos,gO,gd⟩) (b:=#[]) rfl cR cM e1;obtain ⟨i,zv,hi,fV,fg,gz⟩:=nH (c:=⟨g0,live X h,w⟩) hz;have fZ:i.size=P.cellsOf e:=(by simp [Program.cellsOf,hi]);have vE:i.bytes=P.bytesOf e:=(by simp [Program.bytesOf,hi]);have my:zv.cells.size=P.cellsOf e:=by have:=fg.length;simp at this;omega
  obtain ⟨news,n1,n2,n3,n4,n5⟩:=wW (c:=⟨g0,live X h,w⟩) lg h2;have gm:news.length=ys.length*P.cellsOf e:=by rw [n3.length,lB n4]
  have lT:=yV (P:=P) (w:=w) (ty:=ty) (i:=i) (z:=zv) (m:=ys.length) (gV:=0) (mw:=0) (base:=none) (dx:=[]) br eX hi fV n1 (by rw [fZ];exact n2 w.drew rfl)
   (by simp [Builtin.firstCells]) (by omega) (by omega) (by omega)
  refine eh (bx _ _ lT) ?_;obtain ⟨c1,s1⟩:=hc.cw.drew;have uu:=grownCap_ge w (0+ys.length) 0 e
  obtain ⟨b',g',k1,k2,k3⟩:=c1.AM (l:=ys.flatten) (us:=[]++news) (Z:=Builtin.zeroCells zv.cells (grownCap w (0+ys.length) 0 e - (0+ys.length))) e
   (ax.mono (Step.le s1) _ _ (by simpa using n3)) (by simpa using n5)
  refine hn _ _ g' _ _ (hK b') k2 ?_ (s1.trans hc.cw.own k3);rw [aa];have tc:=grownCap_le_maxLen w (0+ys.length) 0 e (by unfold maxLen;unfold aU at dS;omega);refine ⟨_,grownCap w (0+ys.length) 0 e,0,k1,rfl,by rw [Nat.zero_add];rfl,by omega,by unfold aw;unfold aU at dS;omega,cX,?_,fun _=>rfl,by unfold pb;unfold maxLen at tc;omega⟩;refine ⟨_,_,_,heap_alloc_new w.drew _,?_⟩;simp only [Array.size_append,List.size_toArray,size_zeroCells,my,List.length_append,gm,List.length_nil];have e3:ys.length*P.cellsOf e+(grownCap w (0+ys.length) 0 e - (0+ys.length))*P.cellsOf e=grownCap w (0+ys.length) 0 e*P.cellsOf e:=by rw [<- Nat.add_mul];congr 1;omega
  simp only [Nat.zero_add] at e3 ⊢;omega
 rename_i b off k y hl;split at hq<;>try contradiction
 rename_i hk;have hk:=Nat.eq_of_beq_eq_true hk;split at hq<;>try contradiction
 rename_i ys lg;obtain ⟨⟨⟨cs,cu⟩,dK,dS⟩,hK⟩:=hq;have ca:=hc.bS cx hl;simp only [ax] at ca;obtain ⟨u,rr,e1,h1,u2,pL,e2,h2,h3⟩:=ca;subst e2 h3;have bx:=uw (P:=P) (a:=a) (w:=w) (o:=⟨dst,.call cl,ty,pos,gO,gd⟩) (b:=#[]) rfl cR cM e1;refine PC hc.cw cu br eX cX jY hz iI hk (.inl rfl) (by omega) (by omega) (wW (c:=⟨g0,live X h,w⟩) lg h2) h1 bx ?_ hn;intro q;have:=hK q;simpa using this
theorem Xv {o:Oper} {t:TypeId} {m:Nat} {parts:Array (Nat × Operand)} {K:AV->af->Prop} {next:Act->World->Prop} {Q:Exit->Act->World->Prop} (dq:o.op=.buildSlice t m parts)
  (hq:uT P r h K t m parts) (hc:bN n X g0 r h a w) (hn:mZ X g0 h w K o.dst a next):o.wp P a w next Q:=by
 have cx:di a []:=fun e he=>by cases he
 obtain ⟨dst,op,ty,pos,gO,gd⟩:=o;simp only at dq hn;subst dq;unfold uT at hq;split at hq<;>try contradiction
 rename_i e br;split at hq<;>try contradiction
 rename_i l hl;split at hq<;>try contradiction
 rename_i q1 q2 q3;split at hq<;>try contradiction
 rename_i z hz;split at hq<;>try contradiction
 rename_i q4;have q1:=Nat.eq_of_beq_eq_true q1;have q2:=Nat.le_of_ble_eq_true q2;have q3:=Nat.le_of_ble_eq_true q3;have q4:=Nat.eq_of_beq_eq_true q4;obtain ⟨ie,zv,bC,fV,fg,uY⟩:=nH (c:=⟨g0,live X h,w⟩) hz;have iG:ie.size=P.cellsOf e:=(by simp [Program.cellsOf,bC]);have iI:zv.cells.size=P.cellsOf e:=by have:=fg.length;simp at this;omega
 have Ca:∀ u∈(Array.range (m*P.cellsOf e)).map (zv.cells[· % zv.cells.size]!),u.oneCell'=true:=by intro u hu;obtain ⟨j,hj,rfl⟩:=Array.mem_map.1 hu;have aI:j % zv.cells.size<zv.cells.size:=Nat.mod_lt _ (by omega);rw [getElem!_pos zv.cells _ aI];exact uY _ (Array.getElem_mem _)
 by_cases hm:m=0
 ·subst hm;have dF:l=[]:=List.eq_nil_of_length_eq_zero q1;subst dF
  have iH:parts.toList=[]:=by
   cases hh:parts.toList with
   | nil=>rfl
   | cons q qs=>
     rw [hh] at hl;obtain ⟨i0,x0⟩:=q;unfold iF at hl
     (repeat' split at hl)<;>simp_all
  have hD:parts=#[]:=(by simpa using iH);obtain ⟨k,g',k1,k2,k3⟩:=hc.cw.CY (l:=[]) (us:=#[]) e (by simp [ax]) (by simp);refine eh (u:=.slice (some ⟨w.heap.size,0,none⟩) 0 0) (w':=w.alloc (.cells #[] e)) ?_ (hn _ _ g' _ _ (hq k) k2 ?_ k3)
  ·have e0:(Array.map (fun _=>(default:Value)) (Array.range 0))=#[]:=(by simp [Array.range]);simp [execOp,Instr.buildSlice,cJ br,pn bC,hD,Instr.fill,newRow,e0]
  rw [aa];exact ⟨_,k1,rfl,rfl,Nat.le_refl _,by unfold aw;omega,by omega,⟨_,_,_,heap_alloc_new w _,by simp⟩,by unfold pb;omega⟩
 replace hq:∀ b,K (.aQ b 0 m (P.cellsOf e)) ((b,.vec l.flatten)::h):=by
  cases m with
  | zero=>exact absurd rfl hm
  | succ n=>exact hq
 obtain ⟨res,us,e1,e2,e3,e4,e5,e6,e7⟩:=Fk hc cx hl ((Array.range (m*P.cellsOf e)).map (zv.cells[· % zv.cells.size]!))
  (by
    have:∀ (ps:List (Nat × Operand)) (k:Nat) (l:List (List AV)),iF r [] (P.cellsOf e) k ps=some l->l.length=ps.length:=by
     intro ps;induction ps with
     | nil=>intro k l hh;simp [iF] at hh;subst hh;rfl
     | cons q qs ih=>
       intro k l hh;obtain ⟨i0,x0⟩:=q;unfold iF at hh;split at hh<;>try contradiction
       split at hh<;>try contradiction
       split at hh<;>try contradiction
       split at hh<;>try contradiction
       split at hh<;>try contradiction
       rename_i l' hr;cases hh
       simp [ih _ _ hr]
    have:=this _ _ _ hl;rw [Nat.zero_add,<- this,q1];simp) Ca
 have gQ:parts.toList.length=m:=(by omega);have NK:0<m*P.cellsOf e:=Nat.mul_pos (by omega) (by omega);have wD:res.toList=us:=by rw [e6];simp only [Nat.zero_mul,List.take_zero,List.nil_append,Nat.zero_add,gQ];rw [List.drop_of_length_le (by simp)];simp
 have bx:=run_buildSlice (P:=P) w t e m (parts.map fun (i,x)=>(i,a.eval x)) res ie zv br bC fV (by rw [iG];omega) (by rw [iG];omega)
  (by rw [iG];simpa using e1)
 obtain ⟨k,g',k1,k2,k3⟩:=hc.cw.CY (l:=l.flatten) (us:=res) e (by rw [wD];exact e4) e7;refine eh (u:=.slice (some ⟨w.heap.size,0,none⟩) m m) (w':=w.alloc (.cells res e)) ?_ (hn _ _ g' _ _ (hq k) k2 ?_ k3)
 ·simp [execOp,bx]
 rw [aa];have NL:m<=65536:=Nat.le_trans (Nat.le_mul_of_pos_right m (by omega)) q3;refine ⟨_,m,0,k1,rfl,rfl,Nat.le_refl _,by unfold aw;omega,by omega,?_,fun _=>rfl,by unfold pb;omega⟩;refine ⟨_,_,_,heap_alloc_new w _,?_⟩;have:=e4.length;have h2:res.size=l.flatten.length:=by rw [<- Array.length_toList,wD];omega
 have h3:=lB e3;simp only [Nat.zero_add];rw [h2,h3,q1];omega
theorem Kf {own jL:List Nat} {o:Oper} {K:AV->af->Prop} {next:Act->World->Prop} {Q:Exit->Act->World->Prop}
  (hq:gN P own jL o.dst r h K o.op) (hc:bN n X g0 r h a w) (hn:mZ X g0 h w K o.dst a next):o.wp P a w next Q:=by
 unfold gN at hq;split at hq
 ·rename_i cl d e1 e2;split at hq
  ·exact Xu e1 hq hc hn
  rw [<- e1] at hq;exact Da hq hc hn
 ·rename_i t m parts d e1 e2;split at hq
  ·exact Xv e1 hq hc hn
  rw [<- e1] at hq;exact Da hq hc hn
 exact Da hq hc hn
end Go.Abs
/-
 The abstract fS,part J: the BP ND xV the code does.
-/
namespace Go.Abs
open Go
variable {P:Program} {n:Nat} {X:Nat->Prop} {g0:Gh} {r:aC} {h:af} {a:Act} {w:World}
theorem PN {d:Nat}:∀ {g:G},pj.EX g d=false->∀ e∈g,e.1≠d
 | [],_,e,he=>by cases he
 | (t,b,w)::g,hm,e,he=>by
   unfold pj.EX at hm;split at hm
   ·cases hm
   rename_i ht;rcases List.mem_cons.1 he with rfl|he
   ·intro e;subst e;rw [Nat.beq_refl] at ht;cases ht
   exact PN hm e he
theorem wZ {t:Nat} {gg:G} {v:AV} {d:Nat} (hn:pj ((t,gg,v)::r) d=true):(∀ e∈gg,e.1≠d)/\pj r d=true:=by
 cases gg with
 | nil=>exact ⟨by simp,hn⟩
 | cons e g=>
   unfold pj at hn;split at hn
   ·cases hn
   rename_i hm;exact ⟨PN hm,hn⟩
theorem zb {d:Nat}:∀ {r:aC} {t:Nat} {gg:G} {v:AV},pj r d=true->bp r t=some (gg,v)->∀ e∈gg,e.1≠d
 | [],t,gg,v,_,h=>by cases h
 | (t',g',v')::r,t,gg,v,hn,h=>by
   obtain ⟨h1,h2⟩:=wZ hn;unfold bp at h;split at h
   ·cases h;exact h1
   exact zb h2 h
theorem Gn {d:Nat} {u:Value} {gg:G} (hd:∀ e∈gg,e.1≠d):di (a.put (some d) u) gg↔di a gg:=by
 unfold di;constructor
 ·intro hh e he;have:=hh e he;simpa [Act.put,Array.getElem?_setIfInBounds_ne (Ne.symm (hd e he))] using this
 intro hh e he;have:=hh e he;simpa [Act.put,Array.getElem?_setIfInBounds_ne (Ne.symm (hd e he))] using this
theorem bN.step {g':Gh} {h':af} {w':World} (hc:bN n X g0 r h a w) (cV:CW X g' h' w') (aF:Step X g0 h w g' h' w'):bN n X g' r h' a w':=
 ⟨cV,fun t gg v hl=>⟨fun hh=>let ⟨h1,u,h2,h3⟩:=(hc.lz t gg v hl).1 hh;⟨h1,u,h2,aa.mono (Step.le aF) _ _ h3⟩,(hc.lz t gg v hl).2⟩,hc.defers,hc.size⟩
theorem bN.put {g':Gh} {h':af} {w':World} (hc:bN n X g0 r h a w) (cV:CW X g' h' w') (aF:Step X g0 h w g' h' w') {d:Nat} (hd:d<n) {gg:G} {v:AV} {u:Value}
  (qL:pj ((d,gg,v)::r) d=true) (h1:di a gg->(∀ e∈gg,e.2.1=e.2.2)/\aa ⟨g',live X h',w'⟩ v u) (h2:¬ di a gg->u=undef) :
  bN n X g' ((d,gg,v)::r) h' (a.put (some d) u) w':=by
 obtain ⟨n1,n2⟩:=wZ qL;have lD:(a.put (some d) u).tmps[d]?=some u:=by have:=hc.size;simp [Act.put,Array.getElem?_setIfInBounds,show d<a.tmps.size from by omega]
 refine ⟨cV,?_,hc.defers,by simpa [Act.put] using hc.size⟩;intro t Gp v' hl;unfold bp at hl;split at hl
 ·rename_i ht;have ht:=Nat.eq_of_beq_eq_true ht;subst ht;cases hl
  rw [Gn n1,lD];exact ⟨fun hh=>⟨(h1 hh).1,u,rfl,(h1 hh).2⟩,fun hh=>by rw [h2 hh]⟩
 rename_i ht;have aJ:t≠d:=by intro e;subst e;rw [Nat.beq_refl] at ht;cases ht
 rw [Gn (zb n2 hl)];have hg:(a.put (some d) u).tmps[t]?=a.tmps[t]?:=(by simp [Act.put,Array.getElem?_setIfInBounds_ne (Ne.symm aJ)]);rw [hg];exact (hc.step cV aF).lz t Gp v' hl
theorem AO {g':Gh} {h':af} {w':World} {d:Option Tmp} {gg:G} {v:AV} {u:Value} {K:aC->Prop} (hc:bN n X g0 r h a w) (cV:CW X g' h' w') (aF:Step X g0 h w g' h' w')
  (hs:fT n d gg v r K) (h1:di a gg->(∀ e∈gg,e.2.1=e.2.2)/\aa ⟨g',live X h',w'⟩ v u) (h2:¬ di a gg->u=undef) :
  ∃ r',K r'/\bN n X g' r' h' (a.put d u) w':=by
 unfold fT at hs;split at hs
 ·exact ⟨r,hs,by simpa [Act.put] using hc.step cV aF⟩
 split at hs<;>try contradiction
 rename_i aI;split at hs<;>try contradiction
 rename_i qL;rw [Nat.blt_eq] at aI;exact ⟨_,hs,hc.put cV aF aI qL h1 h2⟩
theorem AP:∀ {ts:List Nat} {k:aC->Prop},pk r k ts->∃ l,k l/\∀ t gg v,bp l t=some (gg,v)->bp r t=some (gg,v)
 | [],k,h=>⟨[],h,fun t gg v hl=>by cases hl⟩
 | t::ts,k,h=>by
   unfold pk at h;split at h
   ·rename_i v hv;obtain ⟨l,h1,h2⟩:=AP h;refine ⟨_,h1,fun t' gg v' hl=>?_⟩;unfold bp at hl;split at hl
    ·rename_i ht;have ht:=Nat.eq_of_beq_eq_true ht;subst ht;cases hl
     exact hv
    exact h2 t' gg v' hl
   exact AP (k:=k) h
theorem bN.less {r':aC} (hc:bN n X g0 r h a w) (hl:∀ t gg v,bp r' t=some (gg,v)->bp r t=some (gg,v)):bN n X g0 r' h a w:=
 ⟨hc.cw,fun t gg v h=>hc.lz t gg v (hl t gg v h),hc.defers,hc.size⟩
theorem Xw {cs l:List AV} (hl:cs.length=l.length):dt cs 0 l=l:=by unfold dt;simp [<- hl]
theorem Xx {t:TypeId} {d:Nat} {y:Operand} {K:aC->af->Prop} {o:Oper} {next:Act->World->Prop} {Q:Exit->Act->World->Prop} (ho:o.op=.store t (.tmp d) y) (Dd:o.dst=none)
  (hs:yd P r h t d y K) (hc:bN n X g0 r h a w)
  (hn:∀ r' h' g' w',K r' h'->bN n X g' r' h' a w'->Step X g0 h w g' h' w'->next a w'):o.wp P a w next Q:=by
 have cx:di a []:=fun e he=>by cases he
 unfold yd at hs;split at hs<;>try contradiction
 rename_i b hx;split at hs<;>try contradiction
 rename_i v hy;split at hs<;>try contradiction
 rename_i l hv;split at hs<;>try contradiction
 rename_i hlen;have hlen:=Nat.eq_of_beq_eq_true hlen;obtain ⟨cs,h',hu,⟨dK,hl⟩,hK⟩:=hs;obtain ⟨l1,l2,rfl,rfl⟩:=bo.split hu;obtain ⟨r1,r2⟩:=Ah hv (hc.aK cx hy);have gA:=hc.aK cx hx;obtain ⟨p,cc,tt,p1,p2,p3,p4,p5,p6⟩:=Gf (o:=0) hc.cw (by omega) r1 (by intro u hu;exact r2 u (by simpa using hu));rw [Xw hl] at p5 p6;rw [aa] at gA;obtain ⟨p',q1,q2,q3⟩:=gA;simp only at q1;rw [p1] at q1;cases q1
 have Db:=r1.length;simp at Db
 obtain ⟨s1,s2⟩:=p5.sub (h':=l1++l2) (by
   intro k o hm;simp only [List.mem_append,List.mem_cons] at hm ⊢;rcases hm with h|h
   ·exact .inl h
   ·exact .inr (.inr h)) (by
   have:=p5.nodup;rw [uq] at this;simp only [keys,List.map_append,List.nodup_append,List.nodup_cons,List.mem_cons] at this ⊢;exact ⟨this.1,this.2.1.2,fun x hx y hy=>this.2.2 x hx y (.inr hy)⟩)
 have bx:(execOp a.eval o).run P w=.ok .skip (w.setCells p.block (p.off+0) (a.eval y).cells.toList):=by have:=Pv (P:=P) (w:=w) (t:=t) (b:=p.block) (o:=p.off+0) (u:=a.eval y) (by omega) (by omega) p3 (by simp at p4;omega) r2;simp only [Nat.add_zero] at this q3;simp [execOp,ho,q3,this]
 have De:=p5.sY;have Df:=p5.sep b (by rw [jn];exact .inl rfl);have jC:=p5.obj b (.vec l) (by simp);refine Fa bx ?_;rw [Dd];refine hn _ _ g0 _ hK ?_ (p6.trans hc.cw.own s2);have ck:=hc.step s1 (p6.trans hc.cw.own s2);refine ⟨s1,fun t' gg v' fF=>?_,hc.defers,hc.size⟩;unfold bp at fF;split at fF
 ·rename_i ht;have ht:=Nat.eq_of_beq_eq_true ht;subst ht;cases fF
  refine ⟨fun _=>⟨by simp,?_⟩,fun hh=>absurd cx hh⟩
  have vG:∃ u,a.tmps[d]?=some u/\a.eval (.tmp d)=u:=by
   simp only [Abs.aK] at hx;split at hx<;>try contradiction
   rename_i g' v' dI;split at hx<;>try contradiction
   rename_i gH;have hh:=Iq cx gH;obtain ⟨_,u,hu,_⟩:=(hc.lz _ _ _ dI).1 hh;exact ⟨u,hu,Ni hu⟩
  obtain ⟨u,xa,js⟩:=vG;refine ⟨u,xa,?_⟩;rw [aa];rw [js] at q3;refine ⟨p.block,p.off+0,q3,?_⟩;obtain ⟨pp,sq,t2,h1,h2,h3,h4,h5,h6⟩:=jC;simp only at h1 h3 h4;rw [p1] at h1;cases h1
  -- the cells,one by one
  have key:∀ (l':List AV) (o:Nat),(∀ i x,l'[i]?=some x->∃ u,sq[p.off+(o+i)]?=some u/\u.oneCell'=true/\aa ⟨g0,live X (l1++(b,.vec l)::l2),w.setCells p.block (p.off+0) (a.eval y).cells.toList⟩ x u) ->
    bA ⟨g0,live X (l1++l2),w.setCells p.block (p.off+0) (a.eval y).cells.toList⟩ l' p.block (p.off+o):=by
   intro l';induction l' with
   | nil=>intro o _;simp [bA]
   | cons x l' ih=>
     intro o hh;simp only [bA];obtain ⟨u,e1,e2,e3⟩:=hh 0 x (by simp);refine ⟨⟨u,?_,e2,?_,aa.mono (Step.le s2) _ _ e3⟩,?_⟩
     ·rw [cell_of_row _ p.block _ sq t2 _ h4];simpa using e1
     ·intro k s hk xd;simp only at hk;rw [h3] at hk;cases hk
      rcases xd with hx|hk
      ·exact absurd hx Df
      exact absurd hk De
     rw [show p.off+o+1=p.off+(o+1) from rfl];refine ih (o+1) (fun i x hx=>?_);have:=hh (i+1) x (by simpa using hx);rwa [show o+(i+1)=o+1+i from by omega] at this
  exact key l 0 (fun i x hx=>by simpa using h6 i x hx)
 exact ck.lz t' gg v' fF
theorem Gq {o:Oper} {f:Nat->Option Bool} (h:o.guard=none):Region.wanted o f=true:=by simp [Region.wanted,h]
theorem Xy {v w:Bool} (h:EU v w=true):v=w:=by cases v<;>cases w<;>first|rfl|cases h
theorem PO {tj:Nat} {w:Bool} (hw:a.tmps[tj]?=some (.bool w)):∀ {g:G},di a (uU tj w g)↔di a g
 | []=>Iff.rfl
 | (t,b,v)::g=>by
   have ih:=PO hw (g:=g)
   have hc:∀ {g':G},di a ((t,b,v)::g')↔(a.tmps[t]?=some (.bool v)/\di a g'):=by
    intro g';unfold di
    exact ⟨fun hh=>⟨hh (t,b,v) (by simp),fun e he=>hh e (by simp [he])⟩,fun hh e he=>by
     rcases List.mem_cons.1 he with rfl|he
     ·exact hh.1
     exact hh.2 e he⟩
   unfold uU;split
   ·rename_i ht;have ht:=Nat.eq_of_beq_eq_true ht;subst ht;split
    ·rename_i hv;have hv:=Xy hv;subst hv;rw [ih,hc];exact ⟨fun h1=>⟨hw,h1⟩,fun h1=>h1.2⟩
    rw [hc,hc,ih]
   rw [hc,hc,ih]
theorem Gr {tj:Nat} {w:Bool}:∀ {g:G},∀ e∈uU tj w g,e∈g
 | [],e,he=>he
 | (t,b,v)::g,e,he=>by
   unfold uU at he;split at he
   ·split at he
    ·exact List.mem_cons_of_mem _ (Gr e he)
    rcases List.mem_cons.1 he with rfl|he
    ·simp
    exact List.mem_cons_of_mem _ (Gr e he)
   rcases List.mem_cons.1 he with rfl|he
   ·simp
   exact List.mem_cons_of_mem _ (Gr e he)
theorem PQ {tj:Nat} {w:Bool}:∀ {r:aC} {t:Nat} {gg:G} {v:AV},bp (tV tj w r) t=some (gg,v)->∃ g,bp r t=some (g,v)/\gg=uU tj w g
 | [],t,gg,v,h=>by cases h
 | (t',g',v')::r,t,gg,v,h=>by
   unfold tV bp at h;unfold bp;split at h
   ·rename_i e;cases h
    exact ⟨g',by first|rfl|rw [e],rfl⟩
   rename_i e;obtain ⟨g,h1,h2⟩:=PQ h;exact ⟨g,by first|exact h1|(rw [e];exact h1),h2⟩
theorem bN.tV {tj:Nat} {w0:Bool} (hc:bN n X g0 r h a w) (hw:a.tmps[tj]?=some (.bool w0)) (he:∀ t g v,bp r t=some (g,v)->di a g->∀ e∈g,e.2.1=e.2.2):bN n X g0 (tV tj w0 r) h a w:=by refine ⟨hc.cw,fun t gg v hl=>?_,hc.defers,hc.size⟩;obtain ⟨g,h1,rfl⟩:=PQ hl;rw [PO hw];exact ⟨fun hh=>⟨fun e hm=>he t g v h1 hh e (Gr e hm),((hc.lz t g v h1).1 hh).2⟩,fun hh=>(hc.lz t g v h1).2 hh⟩
theorem PR {c:az} {all:List Oper} {K:aC->af->Prop} {Q:Exit->Act->World->Prop}:∀ (l:List Oper) (i:Nat) (r:aC) (h:af) (g0:Gh) (a:Act) (w:World),
  (∀ j,all[i+j]?=l[j]?)->lx P c n all K l r h->bN n X g0 r h a w ->
  (∀ r' h' g' a' w',K r' h'->bN n X g' r' h' a' w'->Step X g0 h w g' h' w'->Q .normal a' w') ->
  wpOps P all.toArray Q (List.range' i l.length) a w
 | [],i,r,h,g0,a,w,hi,hr,hc,hf=>by unfold lx at hr;obtain ⟨r',hK,hl⟩:=AP (k:=fun r'=>K r' h) hr;exact hf r' h g0 a w hK (hc.less hl) (Step.refl _ _ _ _)
 | o::l,i,r,h,g0,a,w,hi,hr,hc,hf=>by
   have cx:di a []:=fun e he=>by cases he
   have Xz:all.toArray[i]?=some o:=by have:=hi 0;simpa using this
   have dO:∀ j,all[i+1+j]?=l[j]?:=fun j=>by have:=hi (j+1);rw [show i+1+j=i+(j+1) from by omega];simpa using this
   simp only [List.length_cons,List.range'_succ,wpOps,Xz]
   -- xV follows
   have vH:∀ (r':aC) (h':af) (g':Gh) (a':Act) (w':World),lx P c n all K l r' h'->bN n X g' r' h' a' w'->Step X g0 h w g' h' w' ->
     wpOps P all.toArray Q (List.range' (i+1) l.length) a' w':=fun r' h' g' a' w' uc bQ aF=>
    PR l (i+1) r' h' g' a' w' dO uc bQ (fun r2 h2 g2 a2 w2 hK ck nc=>hf r2 h2 g2 a2 w2 hK ck (aF.trans hc.cw.own nc))
   have gm:∀ {a':Act},mZ X g0 h w (fun v h'=>fT n o.dst [] v r fun r'=>lx P c n all K l r' h') o.dst a (wpOps P all.toArray Q (List.range' (i+1) l.length)):=by intro _ v h' g' u w' hs cV cN aF;obtain ⟨r',hK,bQ⟩:=AO (u:=u) hc cV aF hs (fun _=>⟨by simp,cN⟩) (fun hh=>absurd cx hh);exact vH r' h' g' _ w' hK bQ aF
   unfold lx at hr;split at hr
   ·-- no guard
    rename_i eJ;rw [if_pos (Gq eJ)];left;split at hr
    ·split at hr
     ·rename_i t d y dq Dd;split at hr
      ·refine Xx dq Dd hr hc (fun r' h' g' w' hK bQ aF=>vH r' h' g' a w' hK bQ aF)
      exact Da hr hc (gm (a':=a))
     exact Kf hr hc (gm (a':=a))
    refine Fo hr hc cx (by simp) ?_;intro v g' u w' hs cV cN aF;obtain ⟨r',hK,bQ⟩:=AO (u:=u) hc cV aF hs (fun _=>⟨by simp,cN⟩) (fun hh=>absurd cx hh);exact vH r' h g' _ w' hK bQ aF
   -- a guard
   rename_i j wt eJ;split at hr<;>try contradiction
   rename_i oj Dg;split at hr<;>try contradiction
   rename_i tj Dh;split at hr<;>try contradiction
   rename_i gj b dI;have vG:=hc.lz tj gj (.bool b) dI
   have hy:yielded all.toArray a.tmps j=match a.tmps[tj]? with|some (.bool b)=>some b|_=>none:=by
    unfold yielded;simp [Dg,Dh];rcases a.tmps[tj]? with _|v
    ·rfl
    cases v<;>rfl
   have Di:Region.wanted o (yielded all.toArray a.tmps)=(yielded all.toArray a.tmps j == some wt):=(by simp [Region.wanted,eJ]);have uB:di a gj->Region.wanted o (yielded all.toArray a.tmps)=decide (b=wt)/\a.tmps[tj]?=some (.bool b)/\∀ e∈gj,e.2.1=e.2.2:=by intro hh;obtain ⟨h1,u,h2,h3⟩:=vG.1 hh;rw [aa] at h3;subst h3;refine ⟨?_,h2,h1⟩;rw [Di,hy,h2];simp only;cases b<;>cases wt<;>rfl
   have Kg:¬ di a gj->Region.wanted o (yielded all.toArray a.tmps)=false/\a.tmps[tj]?=some undef:=by intro hh;have h1:=vG.2 hh;refine ⟨?_,h1⟩;rw [Di,hy,h1];rfl
   have jm:di a (gj++[(tj,b,wt)])↔(di a gj/\b=wt):=by
    constructor
    ·intro hh;have h1:di a gj:=fun e he=>hh e (by simp [he]);refine ⟨h1,?_⟩;have h2:=hh (tj,b,wt) (by simp);simp only at h2;rw [(uB h1).2.1] at h2;cases h2;rfl
    rintro ⟨h1,rfl⟩ e he;simp only [List.mem_append,List.mem_singleton] at he;rcases he with he|rfl
    ·exact h1 e he
    exact (uB h1).2.1
   split at hr
   ·-- a call that is split
    split at hr<;>try contradiction
    obtain ⟨qM,vI⟩:=hr;obtain ⟨y1,y2,y3⟩:=uB cx;rw [y1];by_cases hb:b=wt
    ·simp only [hb,decide_true,if_true];left;have ck:=hc.tV (w0:=wt) (by rw [y2,hb]) (fun t g v hl hh=>((hc.lz t g v hl).1 hh).1);refine Da (qM hb) ck ?_;intro v h' g' u w' hs cV cN aF;obtain ⟨r',hK,bQ⟩:=AO (u:=u) ck cV aF hs (fun _=>⟨by simp,cN⟩) (fun hh=>absurd cx hh);exact vH r' h' g' _ w' hK bQ aF
    simp only [hb,decide_false,Bool.false_eq_true,if_false]
    obtain ⟨r',hK,bQ⟩:=AO (u:=undef) hc hc.cw (Step.refl _ _ _ _) (vI hb) (fun hh=>by
     have:=hh (tj,b,wt) (by simp);simp only at this;rw [y2] at this;cases this;exact absurd rfl hb) (fun _=>rfl)
    exact vH r' h g0 _ w hK bQ (Step.refl _ _ _ _)
   split at hr<;>try contradiction
   by_cases hh:di a (gj++[(tj,b,wt)])
   ·obtain ⟨h1,h2⟩:=jm.1 hh;obtain ⟨y1,y2,y3⟩:=uB h1;rw [y1];simp only [h2,decide_true,if_true];left
    have he:∀ e∈gj++[(tj,b,wt)],e.2.1=e.2.2:=by
     intro e he;simp only [List.mem_append,List.mem_singleton] at he;rcases he with he|rfl
     ·exact y3 e he
     exact h2
    refine Fo hr hc hh he ?_;intro v g' u w' hs cV cN aF;obtain ⟨r',hK,bQ⟩:=AO (u:=u) hc cV aF hs (fun _=>⟨he,cN⟩) (fun hn=>absurd hh hn);exact vH r' h g' _ w' hK bQ aF
   have hw:Region.wanted o (yielded all.toArray a.tmps)=false:=by
    by_cases h1:di a gj
    ·rw [(uB h1).1];simp only [decide_eq_false_iff_not];intro hb;exact hh (jm.2 ⟨h1,hb⟩)
    exact (Kg h1).1
   rw [hw];simp only [Bool.false_eq_true,if_false];obtain ⟨v,hs⟩:=CV hr;obtain ⟨r',hK,bQ⟩:=AO (u:=undef) hc hc.cw (Step.refl _ _ _ _) hs (fun hy=>absurd hy hh) (fun _=>rfl);exact vH r' h g0 _ w hK bQ (Step.refl _ _ _ _)
end Go.Abs
/-
 The abstract fS,part K: xV a quiet operation V8 on.
-/
namespace Go.Abs
open Go
variable {P:Program} {n:Nat} {X:Nat->Prop} {g0:Gh} {r:aC} {h:af} {a:Act} {w:World}
theorem Kh {g:G} {K:AV->Prop} {op:Op} (hq:bM P r g h K op):∃ v,K v/\bM P r g h (fun x=>x=v) op:=by
 have sW:∀ {k:IntKind} {m:Int} {K:AV->Prop},arith g k m K->∃ v,K v/\arith g k m (fun x=>x=v):=by intro k m K hh;unfold arith at hh ⊢;cases k<;>first|exact ⟨_,hh.2,hh.1,rfl⟩|exact ⟨_,hh,rfl⟩
 have wV:∀ {t:TypeId} {cs:List AV} {K:AV->Prop},gy P t cs K->∃ v,K v/\gy P t cs (fun x=>x=v):=by
  intro t cs K hh;unfold gy at hh ⊢
  (repeat' split at hh)<;>first|exact ⟨_,hh,rfl⟩|exact hh.elim
 have Ki:∀ {t:TypeId} {op:BinOp} {x y:AV} {K:AV->Prop},tQ P g t op x y K->∃ v,K v/\tQ P g t op x y (fun x=>x=v):=by
  intro t op x y K;unfold tQ;simp only [pd];repeat' split
  all_goals first
   | exact fun hh=>hh.elim
   | exact fun hh=>⟨_,hh,rfl⟩
   | exact fun hh=>⟨_,hh.2,hh.1,rfl⟩
   | exact fun hh=>let ⟨v,h1,h2⟩:=sW hh.2;⟨v,h1,hh.1,h2⟩
   | exact fun hh=>let ⟨v,h1,h2⟩:=sW hh.2.2;⟨v,h1,hh.1,hh.2.1,h2⟩
   | exact fun hh=>⟨_,hh.2.2,hh.1,hh.2.1,rfl⟩
 have hlen:∀ {d:Option TypeDesc} {x:AV} {K:AV->Prop},tU d x K->∃ v,K v/\tU d x (fun x=>x=v):=by
  intro d x K;unfold tU;repeat' split
  all_goals first
   | exact fun hh=>hh.elim
   | exact fun hh=>⟨_,hh,rfl⟩
 have eu:∀ {x:AV} {lo hi:Int} {b:Bool} {K:AV->Prop},pg g x lo hi b K->∃ v,K v/\pg g x lo hi b (fun x=>x=v):=by
  intro x lo hi b K;unfold pg;repeat' split
  all_goals first
   | exact fun hh=>hh.elim
   | exact fun hh=>⟨_,hh.2,hh.1,rfl⟩
 have mj:∀ {s:TypeId} {xs:List (List AV)} {K:AV->Prop},uR P s xs K->∃ v,K v/\uR P s xs (fun x=>x=v):=by
  intro s xs K;unfold uR;repeat' split
  all_goals first
   | exact fun hh=>hh.elim
   | exact fun ⟨ns,h1,hh⟩=>⟨_,hh,ns,h1,rfl⟩
 revert hq;unfold bM;repeat' split
 all_goals first
  | exact fun hh=>hh.elim
  | exact fun hh=>⟨_,hh,rfl⟩
  | exact mj
  | exact wV
  | exact sW
  | exact Ki
  | exact hlen
  | exact eu
  | exact fun ⟨cs,l,h1,h2,hq⟩=>let ⟨v,k1,k2⟩:=wV hq;⟨v,k1,cs,l,h1,h2,k2⟩
  | exact fun ⟨j,y,h1,hq⟩=>⟨_,hq,j,y,h1,rfl⟩
  | exact fun ⟨es,v,f,h1,h2,hq⟩=>⟨_,hq,es,v,f,h1,h2,rfl⟩
  | exact fun ⟨j,l,h1,h2,hq⟩=>⟨_,hq,j,l,h1,h2,rfl⟩
  | exact fun ⟨h1,hq⟩=>⟨_,hq,h1,rfl⟩
  | exact fun ⟨j,h1,hq⟩=>⟨_,hq,j,h1,rfl⟩
theorem Gs {t:Nat}:∀ {xs:List Operand},Operand.tmp t∈xs->t∈ru xs
 | x::xs,h=>by
   rcases List.mem_cons.1 h with rfl|h
   ·simp [ru]
   have:=Gs h;cases x<;>simp [ru,this]
theorem Kj {r1 r2:aC} {g:G} {x:Operand} (h:∀ t,x=.tmp t->bp r1 t=bp r2 t):aK r1 g x=aK r2 g x:=by
 cases x with
 | tmp t=>simp only [aK,h t rfl]
 | _=>rfl
theorem Dj {r1 r2:aC} {g:G}:∀ {xs:List Operand},(∀ x∈xs,aK r1 g x=aK r2 g x)->bS r1 g xs=bS r2 g xs
 | [],_=>rfl
 | x::xs,h=>by unfold bS;rw [h x (by simp),Dj fun y hy=>h y (by simp [hy])]
theorem PS {r1 r2:aC} {g:G}:∀ {xs:List (Nat × Operand)},(∀ x∈xs.map (·.2),aK r1 g x=aK r2 g x)->partsOf r1 g xs=partsOf r2 g xs
 | [],_=>rfl
 | (i,x)::xs,h=>by unfold partsOf;rw [h x (by simp),PS fun y hy=>h y (by simp only [List.map_cons,List.mem_cons];exact .inr hy)]
theorem Gt {r1 r2:aC} {g:G} {size:Nat}:∀ {xs:List (Nat × Operand)} {k:Nat},(∀ x∈xs.map (·.2),aK r1 g x=aK r2 g x)->iF r1 g size k xs=iF r2 g size k xs
 | [],_,_=>rfl
 | (i,x)::xs,k,h=>by unfold iF;rw [h x (by simp),Gt fun y hy=>h y (by simp only [List.map_cons,List.mem_cons];exact .inr hy)]
theorem PT {r1 r2:aC} {g:G} {x:Option Operand} {d:Int} (h:∀ y,x=some y->aK r1 g y=aK r2 g y):ph r1 g x d=ph r2 g x d:=by
 cases x with
 | none=>rfl
 | some y=>simp only [ph,h y rfl]
theorem PU {r1 r2:aC} {g:G} {K:AV->Prop} {op:Op} (h':∀ t∈ru op.operands.toList,bp r1 t=bp r2 t) (hq:bM P r1 g h K op):bM P r2 g h K op:=by
 have hx:∀ g,∀ x∈op.operands.toList,aK r1 g x=aK r2 g x:=by intro g x hx;exact Kj fun t ht=>h' t (Gs (ht ▸ hx))
 clear h';cases op
 case pick c x y=>
  have h1:=fun g=>hx g c (by simp [Op.operands]);have h2:=fun g=>hx g x (by simp [Op.operands]);have h3:=fun g=>hx g y (by simp [Op.operands]);clear hx;revert hq;unfold bM;split;all_goals first|exact fun hh=>hh.elim|skip
  all_goals simp_all
 case call cl=>
  have jM:∀ g,bS r1 g cl.args.toList=bS r2 g cl.args.toList:=fun g=>Dj fun x ji=>hx g x (by simp [Op.operands,Call.operands];exact .inr (by simpa using ji));have cR:∀ g t,cl.callee=.value (.tmp t)->aK r1 g (.tmp t)=aK r2 g (.tmp t):=fun g t ht=>hx g _ (by simp [Op.operands,Call.operands,ht]);clear hx;revert hq;unfold bM;simp only [jM];split;all_goals first|exact fun hh=>hh|skip
  rename_i t ht;rw [cR _ _ ht];exact fun hh=>hh
 case build t ps=>
  simp only [bM] at hq ⊢;rw [<- PS (r1:=r1) (fun x ji=>hx g x (by simpa [Op.operands] using ji))];exact hq
 case buildSlice t m ps=>
  simp only [bM] at hq ⊢;revert hq;split
  ·rw [<- Gt (r1:=r1) (fun x ji=>hx g x (by simpa [Op.operands] using ji))];exact fun hh=>hh
  exact fun hh=>hh
 case makeFunc f first bF=>
  have jM:∀ g,bS r1 g bF.toList=bS r2 g bF.toList:=fun g=>Dj fun x ji=>hx g x (by simp [Op.operands];exact .inr (by simpa using ji));cases f<;>simp only [bM] at hq ⊢<;>first|exact hq|skip
  rw [<- jM];exact hq
 case slice t x lo hi mx=>
  cases mx<;>simp only [bM] at hq ⊢<;>try exact hq
  rw [<- hx g x (by simp [Op.operands])];have h2:∀ d,ph r1 g lo d=ph r2 g lo d:=fun d=>PT fun y hy=>hx g y (by subst hy;simp [Op.operands]);have h3:∀ d,ph r1 g hi d=ph r2 g hi d:=fun d=>PT fun y hy=>hx g y (by subst hy;simp [Op.operands]);simp only [<- h2,<- h3];exact hq
 case makeMap t rr=>simp [bM] at hq
 case unOp o t x=>
  have h1:=hx g x (by simp [Op.operands]);cases o<;>first|(simp [bM] at hq;done)|(simp only [bM] at hq ⊢;rw [<- h1];exact hq)
 all_goals first
  | (simp [bM] at hq;done)
  | (simp only [Op.operands] at hx
     simp only [bM] at hq ⊢
     (try simp at hx)
     (try simp only [hx] at hq)
     exact hq)
theorem Kk {g:G} {K:AV->Prop} {op:Op} (hf:rv r g op=true) {h':af} (hq:bM P r g h K op):bM P r g h' K op:=by
 cases op
 case load t x=>
  simp only [bM,rv] at hq hf ⊢;split at hf
  ·rename_i cs hx;simp only [hx] at hq ⊢;exact hq
  cases hf
 case call cl=>
  unfold rv at hf;simp only at hf;split at hf
  ·rename_i b hb;unfold bM at hq ⊢;simp only [hb] at hq ⊢;cases b<;>exact hq
  cases hf
 case pick c x y=>
  revert hq;unfold bM;split;all_goals first|exact fun hh=>hh|contradiction|(rename_i hh;cases hh)
 case lookup t x i ok=>simp [rv] at hf
 case unOp o t x=>cases o<;>first|(simp [bM] at hq;done)|(simp only [bM] at hq ⊢;exact hq)
 case slice t x lo hi mx=>cases mx<;>first|(simp [bM] at hq;done)|(simp only [bM] at hq ⊢;exact hq)
 case makeFunc f first bF=>cases f<;>first|(simp [bM] at hq;done)|(simp only [bM] at hq ⊢;exact hq)
 all_goals first|exact hq|(simp [bM] at hq;done)
end Go.Abs
