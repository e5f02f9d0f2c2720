/- What is proved: small laws for the walks of this seat, and contracts of its functions. No condition but those each theorem names. -/
import Derived.Test.YtddhcllidlclmaaGreatN1
import Derived.Laws.OwnMore
import Derived.Carry
import Derived.Laws.IdiomRangeMap
import Derived.Lib.AppendZerosOnto
import Derived.Laws.RangeAny
/-
 The abstract layer,part F: the operations that make or turn own objects.
-/
set_option linter.unusedVariables false
set_option linter.unusedSimpArgs false
namespace Go.Abs
open Go
variable {P:Program} {n:Nat} {X:Nat→Prop} {g0:Gh} {r:Regs} {h:Heap} {a:Act} {w:World}
def Gh.set (g:Gh) (k:Nat) (p:Option Addr) (b:Option (Nat × Nat)):Gh where
 pl:=fun k'=>if k'=k then p else g.pl k'
 ow:=fun b'=>match b with
  | some (bb,s)=>if b'=bb then some (k,s) else g.ow b'
  | none=>g.ow b'
theorem CW.fresh (hc:CW X g0 h w):∃ k,¬ X k∧k ∉ keys h∧g0.pl k=none∧∀ b s,g0.ow b≠some (k,s):=by
 obtain ⟨N,hN⟩:=hc.bound
 refine ⟨N,fun hx=>?_,fun hk=>?_,?_,fun b s hb=>?_⟩
 ·exact absurd (hN N (.inl hx)) (Nat.lt_irrefl _)
 ·exact absurd (hN N (.inr (.inl hk))) (Nat.lt_irrefl _)
 ·cases hp:g0.pl N with
  | none=>rfl
  | some p=>exact absurd (hN N (.inr (.inr (.inl (by simp [hp]))))) (Nat.lt_irrefl _)
 ·exact absurd (hN N (.inr (.inr (.inr ⟨b,s,hb⟩)))) (Nat.lt_irrefl _)
theorem CW.newAt (hc:CW X g0 h w) (o:Obj) (s:Nat):∃ k,k ∉ keys h∧¬ X k ∧
  (∀ ob,Step X g0 h w (g0.set k (some ⟨w.heap.size,s,none⟩) (some (w.heap.size,s))) ((k,ob)::h) (w.alloc o)) ∧
  ∀ ob,ObjRep ⟨g0.set k (some ⟨w.heap.size,s,none⟩) (some (w.heap.size,s)),live X ((k,ob)::h),w.alloc o⟩ k ob →
   CW X (g0.set k (some ⟨w.heap.size,s,none⟩) (some (w.heap.size,s))) ((k,ob)::h) (w.alloc o):=by
 obtain ⟨k,f1,f2,f3,f4⟩:=hc.fresh
 have hst:∀ ob,Step X g0 h w (g0.set k (some ⟨w.heap.size,s,none⟩) (some (w.heap.size,s))) ((k,ob)::h) (w.alloc o):=by
  intro ob
  refine ⟨rfl,⟨rfl,Nat.le_refl _⟩,rfl,by simp,?_,?_,?_,?_,?_,?_,?_⟩
  ·intro k' p hp
   simp only [Gh.set]
   split
   ·rename_i e;subst e;rw [f3] at hp;cases hp
   ·exact hp
  ·intro b k' s' hb hx
   simp only [Gh.set]
   split
   ·rename_i e;subst e;exact absurd (hc.own _ _ _ hb) (Nat.lt_irrefl _)
   ·exact hb
  ·intro b k' s' hb hx
   simp only [Gh.set] at hb
   split at hb
   ·cases hb;exact absurd hx f1
   ·exact hb
  ·intro k' hx hp
   simp only [Gh.set]
   split
   ·rename_i e;subst e;exact absurd hx f1
   ·exact hp
  ·intro b hb hno
   refine ⟨heap_alloc_lt w o hb,fun k' s' hb' hk'=>?_⟩
   simp only [Gh.set] at hb'
   split at hb'
   ·omega
   ·simp [keys] at hk'
    rcases hk' with rfl|⟨x,hx⟩
    ·exact f4 _ _ hb'
    ·exact hno k' s' hb' (by simp [keys];exact ⟨x,hx⟩)
  ·intro b k' s' hb hk' cc t f hcc
   exact ⟨cc,(heap_alloc_lt w o (hc.own _ _ _ hb)).trans hcc,rfl,fun _ _=>rfl⟩
  ·intro b k' s' hb hk' k'' s'' hb'' _
   simp only [Gh.set] at hb''
   split at hb''
   ·rename_i e;subst e;exact absurd (hc.own _ _ _ hb) (Nat.lt_irrefl _)
   ·rw [hb] at hb'';cases hb'';exact Nat.le_refl _
 refine ⟨k,f2,f1,hst,fun ob hob=>⟨?_,?_,?_,?_,?_⟩⟩
 ·intro b k' s' hb
  simp only [Gh.set] at hb
  split at hb
  ·rename_i e;subst e;simp
  ·have:=hc.own _ _ _ hb;simp;omega
 ·obtain ⟨N,hN⟩:=hc.bound
  refine ⟨max N (k+1),fun k' hk'=>?_⟩
  by_cases e:k'=k
  ·subst e;omega
  ·have:k'<N:=by
    rcases hk' with hx|hk'|hp|⟨b,s',hb⟩
    ·exact hN _ (.inl hx)
    ·simp [keys,e] at hk'
     obtain ⟨x,hx⟩:=hk'
     exact hN _ (.inr (.inl (by simp [keys];exact ⟨x,hx⟩)))
    ·simp only [Gh.set,e,if_false] at hp;exact hN _ (.inr (.inr (.inl hp)))
    ·simp only [Gh.set] at hb
     split at hb
     ·cases hb;exact absurd rfl e
     ·exact hN _ (.inr (.inr (.inr ⟨b,s',hb⟩)))
   omega
 ·simp only [keys,List.map_cons,List.nodup_cons]
  exact ⟨f2,hc.nodup⟩
 ·intro k' hk'
  simp [keys] at hk'
  rcases hk' with rfl|⟨x,hx⟩
  ·exact f1
  ·exact hc.sep k' (by simp [keys];exact ⟨x,hx⟩)
 ·intro k' o' hm
  rcases List.mem_cons.1 hm with e|hm
  ·cases e;exact hob
  ·have hk':k'∈keys h:=by simp [keys];exact ⟨o',hm⟩
   have hne:k'≠k:=fun e=>f2 (e ▸ hk')
   refine ObjRep.keep (c:=⟨g0,live X h,w⟩) (Step.le (hst ob)) (hc.obj k' o' hm) ?_ ?_
   ·intro p hp ⟨s',ho⟩
    have hlt:=hc.own _ _ _ ho
    refine ⟨heap_alloc_lt w o hlt,?_⟩
    simp only [Gh.set]
    rw [if_neg (by omega)]
   ·intro hp;simp only [Gh.set,hne,if_false];exact hp
theorem opQ_some {g:G} {K:AV→Prop} {op:Op} (hq:opQ P r g h K op):∃ v,K v:=by
 have har:∀ {k:IntKind} {m:Int} {K:AV→Prop},arith g k m K→∃ v,K v:=by
  intro k m K hh
  unfold arith at hh
  cases k<;>first|exact ⟨_,hh.2⟩|exact ⟨_,hh⟩
 have hld:∀ {t:TypeId} {cs:List AV} {K:AV→Prop},loadI P t cs K→∃ v,K v:=by
  intro t cs K hh
  unfold loadI at hh
  (repeat' split at hh)<;>first|exact ⟨_,hh⟩|exact hh.elim
 unfold opQ at hq
 split at hq
 all_goals (repeat' split at hq)
 all_goals first
  | exact hq.elim
  | exact ⟨_,hq⟩
  | exact hld hq
  | exact har hq
  | (obtain ⟨cs,l,_,_,hq⟩:=hq;exact hld hq)
  | (obtain ⟨j,y,_,hq⟩:=hq;exact ⟨_,hq⟩)
  | (obtain ⟨es,v,f,_,_,hq⟩:=hq;exact ⟨_,hq⟩)
  | (obtain ⟨j,l,_,_,hq⟩:=hq;exact ⟨_,hq⟩)
  | exact ⟨_,hq.2⟩
  | (obtain ⟨j,_,hq⟩:=hq;exact ⟨_,hq⟩)
  | (unfold binP at hq;simp only [eqK_iff] at hq;(repeat' split at hq)<;>first|exact hq.elim|exact ⟨_,hq⟩|(split at hq<;>first|exact hq.elim|exact ⟨_,hq.2⟩)|exact ⟨_,hq.2⟩|exact har hq.2|exact har hq.2.2|exact ⟨_,hq.2.2⟩)
  | (unfold lenP at hq;(repeat' split at hq)<;>first|exact hq.elim|exact ⟨_,hq⟩)
  | (unfold sliceP at hq;(repeat' split at hq)<;>first|exact hq.elim|exact ⟨_,hq.2⟩)
  | (unfold runesP at hq;(repeat' split at hq)<;>first|exact hq.elim|(obtain ⟨ns,_,hq⟩:=hq;exact ⟨_,hq⟩))
theorem Upd.split {b b':Nat} {o o':Ob}:∀ {h h':Heap},Upd b o b' o' h h'→∃ l1 l2,h=l1++(b,o)::l2∧h'=l1++(b',o')::l2
 | _,_,.here l=>⟨[],l,rfl,rfl⟩
 | _,_,.there (x:=x) u=>by
   obtain ⟨l1,l2,rfl,rfl⟩:=Upd.split u
   exact ⟨x::l1,l2,rfl,rfl⟩
theorem Rem.split {b:Nat} {o:Ob}:∀ {h h':Heap},Rem b o h h'→∃ l1 l2,h=l1++(b,o)::l2∧h'=l1++l2
 | _,_,.here l=>⟨[],l,rfl,rfl⟩
 | _,_,.there (x:=x) u=>by
   obtain ⟨l1,l2,rfl,rfl⟩:=Rem.split u
   exact ⟨x::l1,l2,rfl,rfl⟩
theorem keys_app (l1 l2:Heap) (b:Nat) (o:Ob):keys (l1++(b,o)::l2)=keys l1++b::keys l2:=by simp [keys]
theorem keys_mem (l1 l2:Heap) (b:Nat) (o:Ob) (k:Nat):k∈keys (l1++(b,o)::l2)↔k=b∨k∈keys (l1++l2):=by
 rw [keys_app]
 simp only [keys,List.map_append,List.mem_append,List.mem_cons]
 exact or_left_comm
theorem CW.replace {l1 l2:Heap} {b b':Nat} {o o':Ob} (hc:CW X g0 (l1++(b,o)::l2) w) {g':Gh} {w':World}
  (hst:Step X g0 (l1++(b,o)::l2) w g' (l1++(b',o')::l2) w')
  (hown:∀ blk k s,g'.ow blk=some (k,s)→blk<w'.heap.size)
  (hb':b'=b∨(¬ X b'∧b' ∉ keys (l1++(b,o)::l2)))
  (hpb:∀ k,g'.pl k≠none→k=b'∨g0.pl k≠none) (hob:∀ blk s k,g'.ow blk=some (k,s)→k=b'∨∃ blk s,g0.ow blk=some (k,s))
  (hother:∀ blk k s,g0.ow blk=some (k,s)→k∈keys (l1++l2)→w'.heap[blk]?=w.heap[blk]?∧g'.ow blk=g0.ow blk)
  (hrep:ObjRep ⟨g',live X (l1++(b',o')::l2),w'⟩ b' o'):CW X g' (l1++(b',o')::l2) w':=by
 have hnd:=hc.nodup
 rw [keys_app] at hnd
 have hkeys:=keys_mem l1 l2 b' o'
 have hkeys0:=keys_mem l1 l2 b o
 have hbn:b ∉ keys (l1++l2):=by
  have:=hnd
  simp only [List.nodup_append,List.nodup_cons] at this
  intro hm
  simp only [keys,List.map_append,List.mem_append] at hm
  rcases hm with hm|hm
  ·exact this.2.2 b hm b (by simp) rfl
  ·exact this.2.1.1 hm
 have hbn':b' ∉ keys (l1++l2):=by
  rcases hb' with rfl|⟨_,hb'⟩
  ·exact hbn
  ·intro hm;exact hb' ((hkeys0 b').2 (.inr hm))
 refine ⟨hown,?_,?_,?_,?_⟩
 ·obtain ⟨N,hN⟩:=hc.bound
  refine ⟨max N (b'+1),fun k hk=>?_⟩
  by_cases e:k=b'
  ·omega
  ·have:k<N:=by
    rcases hk with hx|hk|hp|⟨blk,s,hbk⟩
    ·exact hN _ (.inl hx)
    ·exact hN _ (.inr (.inl ((hkeys0 k).2 (.inr (((hkeys k).1 hk).resolve_left e)))))
    ·exact hN _ (.inr (.inr (.inl ((hpb k hp).resolve_left e))))
    ·exact hN _ (.inr (.inr (.inr ((hob blk s k hbk).resolve_left e))))
   omega
 ·rw [keys_app]
  have h1:=hnd
  simp only [List.nodup_append,List.nodup_cons] at h1 ⊢
  have hb1:b' ∉ keys l1:=fun hm=>hbn' (by simp [keys] at hm ⊢;exact .inl hm)
  have hb2:b' ∉ keys l2:=fun hm=>hbn' (by simp [keys] at hm ⊢;exact .inr hm)
  refine ⟨h1.1,⟨hb2,h1.2.1.2⟩,fun x hx y hy=>?_⟩
  rcases List.mem_cons.1 hy with rfl|hy
  ·intro e;subst e;exact hb1 hx
  ·exact h1.2.2 x hx y (by simp [hy])
 ·intro k hk
  rcases (hkeys k).1 hk with rfl|hk
  ·rcases hb' with rfl|⟨hb',_⟩
   ·exact hc.sep _ ((hkeys0 _).2 (.inl rfl))
   ·exact hb'
  ·exact hc.sep k ((hkeys0 k).2 (.inr hk))
 ·intro k ok hm
  have hm':(k,ok)=(b',o')∨(k,ok)∈l1++l2:=by
   simp only [List.mem_append,List.mem_cons] at hm ⊢
   exact or_left_comm.1 hm
  rcases hm' with e|hm'
  ·cases e;exact hrep
  ·have hk:k∈keys (l1++l2):=by simp only [keys,List.mem_map];exact ⟨_,hm',rfl⟩
   have hin:(k,ok)∈l1++(b,o)::l2:=by
    simp only [List.mem_append,List.mem_cons] at hm' ⊢
    exact hm'.elim .inl (fun h=>.inr (.inr h))
   refine ObjRep.keep (c:=⟨g0,live X (l1++(b,o)::l2),w⟩) (Step.le hst) (hc.obj k ok hin) (fun p hp ⟨s,ho⟩=>hother _ _ _ ho hk) (fun hp=>?_)
   by_cases e:k=b'
   ·exact absurd (e ▸ hk) hbn'
   ·cases hq:g'.pl k with
    | none=>rfl
    | some p=>exact absurd hp ((hpb k (by simp [hq])).resolve_left e)
theorem setCells_heap (b:Nat):∀ (vs:List Value) (o:Nat) (w:World) (cc:Array Value) (t:TypeId) (f:Nat × Nat),w.heap[b]?=some (.cells cc t f)→o+vs.length≤cc.size →
  ∃ cc',(w.setCells b o vs).heap[b]?=some (.cells cc' t f)∧cc'.size=cc.size∧(∀ j,j<o∨o+vs.length≤j→cc'[j]?=cc[j]?)∧(∀ j (hj:j<vs.length),cc'[o+j]?=some vs[j]) ∧
   (∀ b',b'≠b→(w.setCells b o vs).heap[b']?=w.heap[b']?)∧(w.setCells b o vs).heap.size=w.heap.size∧(w.setCells b o vs).os=w.os∧((w.setCells b o vs).tape=w.tape∧w.drawn≤(w.setCells b o vs).drawn) ∧
   (w.setCells b o vs).output=w.output
 | [],o,w,cc,t,f,h,_=>⟨cc,h,rfl,fun _ _=>rfl,fun j hj=>by simp at hj,fun _ _=>rfl,rfl,rfl,⟨rfl,Nat.le_refl _⟩,rfl⟩
 | v::vs,o,w,cc,t,f,h,hle=>by
   simp only [List.length_cons] at hle
   have h1:(w.setCell ⟨b,o,none⟩ v).heap[b]?=some (.cells (cc.setIfInBounds o v) t f):=by
    simp only [World.setCell,Array.getElem?_modify,if_true,h];rfl
   obtain ⟨cc',e1,e2,e3,e4,e5,e6,e7,e8,e9⟩:=setCells_heap b vs (o+1) (w.setCell ⟨b,o,none⟩ v) _ t f h1 (by simp;omega)
   refine ⟨cc',e1,by simpa using e2,fun j hj=>?_,fun j hj=>?_,fun b' hb'=>?_,by simpa [World.setCells] using e6,e7,e8,e9⟩
   ·rw [e3 j (by simp only [List.length_cons] at hj;omega),Array.getElem?_setIfInBounds_ne (by simp only [List.length_cons] at hj;omega)]
   ·cases j with
    | zero=>
      rw [e3 (o+0) (by omega)]
      simp [Array.getElem?_setIfInBounds,show o<cc.size from by omega]
    | succ j=>
      have:=e4 j (by simpa using hj)
      rw [show o+(j+1)=o+1+j from by omega]
      simpa using this
   ·show ((w.setCell ⟨b,o,none⟩ v).setCells b (o+1) vs).heap[b']?=_
    rw [e5 b' hb']
    exact heap_setCell_other w _ b' v hb'
theorem run_storeVar {t:TypeId} {b o:Nat} {u:Value} {cc:Array Value} {ty:TypeId} (hs:u.cells.size=P.cellsOf t) (hi:0<P.cellsOf t) (hb:w.heap[b]?=some (.cells cc ty (0,0))) (hle:o+u.cells.size≤cc.size)
  (h1:∀ x∈u.cells,x.oneCell'=true):(Instr.storeAt t (.pointer (some ⟨b,o,none⟩)) u).run P w=.ok () (w.setCells b o u.cells.toList):=by
 have hie:∃ i,P.info? t=some i:=by
  cases hie:P.info? t with
  | none=>simp [Program.cellsOf,hie] at hi
  | some i=>exact ⟨i,rfl⟩
 obtain ⟨i,hie⟩:=hie
 have hst:=run_storeCells_cells (P:=P) b o u.cells.toList 0 w
  (fun j hj=>by
    simp only [Nat.add_zero]
    rw [cell_of_row w b (o+j) cc ty _ hb]
    have:o+j<cc.size:=by simp at hj;omega
    simp [this])
  (fun j hj=>frozen_of_row w b _ cc ty hb) (fun v hv=>h1 v (by simpa using hv))
 simp only [Nat.add_zero] at hst
 simp [Instr.storeAt,Instr.sureAddr,storeVar,run_sizeT hie,hs,hst]
theorem CW.notmem {l1 l2:Heap} {b:Nat} {o:Ob} (hc:CW X g0 (l1++(b,o)::l2) w):b ∉ keys (l1++l2):=by
 have:=hc.nodup
 rw [keys_app] at this
 simp only [List.nodup_append,List.nodup_cons] at this
 intro hm
 simp only [keys,List.map_append,List.mem_append] at hm
 rcases hm with hm|hm
 ·exact this.2.2 b hm b (by simp) rfl
 ·exact this.2.1.1 hm
theorem setC_get (cs:List AV) (o:Nat) (l:List AV) (hle:o+l.length≤cs.length) (i:Nat) :
  (setC cs o l)[i]?=if o≤i∧i<o+l.length then l[i - o]? else cs[i]?:=by
 unfold setC
 by_cases h1:i<o
 ·rw [if_neg (by omega),List.append_assoc,List.getElem?_append_left (by simp;omega),List.getElem?_take_of_lt h1]
 ·by_cases h2:i<o+l.length
  ·rw [if_pos ⟨by omega,h2⟩,List.append_assoc,List.getElem?_append_right (by simp;omega),List.getElem?_append_left (by simp;omega)]
   congr 1
   simp;omega
  ·rw [if_neg (by omega),List.getElem?_append_right (by simp;omega),List.getElem?_drop]
   congr 1
   simp;omega
theorem setC_length (cs:List AV) (o:Nat) (l:List AV) (hle:o+l.length≤cs.length):(setC cs o l).length=cs.length:=by
 unfold setC;simp;omega
theorem vec_store {l1 l2:Heap} {b:Nat} {cs l:List AV} {o:Nat} {us:List Value} (hc:CW X g0 (l1++(b,.vec cs)::l2) w) (hle:o+l.length≤cs.length)
  (hus:RepVs ⟨g0,live X (l1++(b,.vec cs)::l2),w⟩ l us) (ho:∀ u∈us,u.oneCell'=true) :
  ∃ p cc t,g0.pl b=some p∧p.spot=none∧w.heap[p.block]?=some (.cells cc t (0,0))∧p.off+o+us.length≤cc.size ∧
   CW X g0 (l1++(b,.vec (setC cs o l))::l2) (w.setCells p.block (p.off+o) us) ∧
   Step X g0 (l1++(b,.vec cs)::l2) w g0 (l1++(b,.vec (setC cs o l))::l2) (w.setCells p.block (p.off+o) us):=by
 have hob:=hc.obj b (.vec cs) (by simp)
 obtain ⟨p,cc,t,h1,h2,h3,h4,h5,h6⟩:=hob
 simp only at h1 h3 h4
 have hlen:=hus.length
 have hfit:p.off+o+us.length≤cc.size:=by omega
 obtain ⟨cc',e1,e2,e3,e4,e5,e6,e7,e8,e9⟩:=setCells_heap p.block us (p.off+o) w cc t (0,0) h4 hfit
 have hbk:b∈keys (l1++(b,.vec cs)::l2):=by rw [keys_mem];exact .inl rfl
 have hst:Step X g0 (l1++(b,.vec cs)::l2) w g0 (l1++(b,.vec (setC cs o l))::l2) (w.setCells p.block (p.off+o) us):=by
  refine ⟨e7,e8,e9,by omega,fun _ _ e=>e,fun _ _ _ e _=>e,fun _ _ _ e _=>e,fun _ _ e=>e,?_,?_,?_⟩
  ·intro blk hb hn
   have hne:blk≠p.block:=fun e=>hn b 0 (e ▸ h3) hbk
   refine ⟨e5 blk hne,fun k s hk hm=>hn k s hk ?_⟩
   rw [keys_mem] at hm ⊢;exact hm
  ·intro blk k s hk hm dd tt ff hdd
   by_cases e:blk=p.block
   ·subst e
    rw [h3] at hk;cases hk
    rw [h4] at hdd;cases hdd
    exact ⟨cc',e1,e2,fun o ho=>by omega⟩
   ·exact ⟨dd,(e5 blk e).trans hdd,rfl,fun _ _=>rfl⟩
  ·intro blk k s hk _ k' s' hk' _
   rw [hk] at hk';cases hk';exact Nat.le_refl _
 refine ⟨p,cc,t,h1,h2,h4,hfit,?_,hst⟩
 refine hc.replace hst (fun blk k s hk=>by have:=hc.own _ _ _ hk;omega) (.inl rfl) (fun k hk=>.inr hk) (fun blk s k hk=>.inr ⟨blk,s,hk⟩) ?_ ?_
 ·intro blk k s hk hm
  have hne:blk≠p.block:=by
   intro e;rw [e,h3] at hk;cases hk
   exact hc.notmem hm
  exact ⟨e5 blk hne,rfl⟩
 ·refine ⟨p,cc',t,h1,h2,h3,e1,by rw [setC_length _ _ _ hle];omega,?_⟩
  intro i x hx
  rw [setC_get _ _ _ hle] at hx
  split at hx
  ·rename_i hi
   obtain ⟨u,hu,hr⟩:=hus.get _ _ hx
   have hlt:i - o<us.length:=by omega
   refine ⟨u,?_,ho u (List.mem_of_getElem? hu),Rep.mono (Step.le hst) _ _ hr⟩
   have:=e4 (i - o) hlt
   rw [show p.off+o+(i - o)=p.off+i from by omega] at this
   rw [this,← hu,List.getElem?_eq_getElem hlt]
  ·rename_i hi
   obtain ⟨u,hu,ho',hr⟩:=h6 i x hx
   exact ⟨u,by rw [e3 _ (by omega)];exact hu,ho',Rep.mono (Step.le hst) _ _ hr⟩
end Go.Abs
/-
 The abstract layer,part G: append,make,and all operations that make or turn own objects.
-/
namespace Go.Abs
open Go
variable {P:Program} {n:Nat} {X:Nat→Prop} {g0:Gh} {r:Regs} {h:Heap} {a:Act} {w:World}
theorem srcTy_ok {tx:TypeId} (h:srcTy P tx=true):∃ d,P.underlying tx=some d∧((∃ e,d=.slice e)∨d=.string):=by
 unfold srcTy at h
 cases hu:P.underlying tx with
 | none=>simp [hu] at h
 | some d=>cases d<;>simp [hu] at h<;>simp
theorem run_append_room' {t tx ty e:TypeId} {i:TypeInfo} (ht:P.underlying t=some (.slice e)) (htx:srcTy P tx=true) (hi:P.info? e=some i)
  {base:Option Addr} {sLen sCap m:Nat} {ux:Value} {news:List Value}
  (hl:∀ w',(Builtin.lenOf ux).run P w'=.ok m w') (hf:(Builtin.firstCells i.size m ux).run P w=.ok news.toArray w) (hroom:sLen+m≤sCap)
  {w':World} (hst:∀ a,base=some a→(storeCells (a.add (sLen*i.size)) news).run P w=.ok () w') (hn:base=none→w'=w) :
  (Builtin.append_ #[t,tx] ty #[.slice base sLen sCap,ux]).run P w=.ok (.slice base (sLen+m) sCap) w':=by
 obtain ⟨d,hd,hd'⟩:=srcTy_ok htx
 have hz:((match (d:TypeDesc) with|.int _=>true|_=>false):Bool)=false:=by rcases hd' with ⟨e,rfl⟩|rfl<;>rfl
 cases base with
 | none=>
   have:=hn rfl;subst this
   rcases hd' with ⟨e',rfl⟩|rfl<;>simp [Builtin.append_,run_underlying ht,run_underlying hd,sizeOf,typeInfo,hi,hl,hroom,hf]
 | some b=>
   have:=hst b rfl
   rcases hd' with ⟨e',rfl⟩|rfl<;>simp [Builtin.append_,run_underlying ht,run_underlying hd,sizeOf,typeInfo,hi,hl,hroom,hf,this]
theorem run_append_grow' {t tx ty e:TypeId} {i:TypeInfo} {z:Value} (ht:P.underlying t=some (.slice e)) (htx:srcTy P tx=true) (hi:P.info? e=some i) (hz:i.zero=some z)
  {base:Option Addr} {sLen sCap m:Nat} {ux:Value} {olds news:List Value}
  (hl:∀ w',(Builtin.lenOf ux).run P w'=.ok m w') (hf:(Builtin.firstCells i.size m ux).run P w.drew=.ok news.toArray w.drew)
  (ho:(Builtin.firstCells i.size sLen (.slice base sLen sCap)).run P w.drew=.ok olds.toArray w.drew) (hg:sCap<sLen+m) (hmax:sLen+m≤AMAX) (hb:i.bytes≤4096) :
  (Builtin.append_ #[t,tx] ty #[.slice base sLen sCap,ux]).run P w =
    .ok (.slice (some ⟨w.heap.size,0,none⟩) (sLen+m) (grownCap w (sLen+m) sCap e))
     (w.drew.alloc (.cells ((olds++news).toArray++Builtin.zeroCells z.cells (grownCap w (sLen+m) sCap e - (sLen+m))) e)):=by
 obtain ⟨d,hd,hd'⟩:=srcTy_ok htx
 have e0:∀ Z:Array Value,olds.toArray++(news.toArray++Z)=(olds++news).toArray++Z:=by intro Z;rw [← Array.append_assoc];simp
 unfold AMAX at hmax
 have hn:¬ (sLen+m≤sCap):=by omega
 have h63':¬ (9223372036854775807<((sLen:Int)+(m:Int))):=by omega
 have hfit:Builtin.nextslicecap (sLen+m) sCap*i.bytes≤281474976710656:=by
  have h1:Builtin.nextslicecap (sLen+m) sCap≤2*(sLen+m):=nextslicecap_le hg
  exact Nat.le_trans (Nat.mul_le_mul h1 hb) (by omega)
 have h48':¬ (281474976710656<Builtin.nextslicecap (sLen+m) sCap*i.bytes):=by omega
 have hf':(Builtin.firstCells i.size m ux).run P { w with drawn:=w.drawn+1 }=.ok news.toArray { w with drawn:=w.drawn+1 }:=hf
 have ho':(Builtin.firstCells i.size sLen (.slice base sLen sCap)).run P { w with drawn:=w.drawn+1 }=.ok olds.toArray { w with drawn:=w.drawn+1 }:=ho
 rcases hd' with ⟨e',rfl⟩|rfl <;>
  (simp [Builtin.append_,run_underlying ht,run_underlying hd,sizeOf,typeInfo,zeroValue,hi,hz,hl,hn,h63',h48',Question.forced,hf,ho,newRow,grownCap];rw [e0])
theorem src_ok {k:Nat} {y:AV} {ys:List (List AV)} {u:Value} {c:Cx} (h:srcOf k y=some ys) (hu:Rep c y u) :
  ∃ news:List Value,(∀ w',(Builtin.lenOf u).run P w'=.ok ys.length w')∧(∀ w':World,w'.heap=c.w.heap→(Builtin.firstCells k ys.length u).run P w'=.ok news.toArray w') ∧
   RepVs c ys.flatten news∧(∀ x∈ys,x.length=k)∧(∀ v∈news,v.oneCell'=true):=by
 unfold srcOf at h
 split at h
 ·rename_i k' q xs
  split at h<;>try contradiction
  rename_i hk
  have hk:=Nat.eq_of_beq_eq_true hk
  cases h
  subst hk
  simp only [Rep] at hu
  obtain ⟨base,cap,rfl,e1,e2,e3,e4,e5,e6,e7⟩:=hu
  cases base with
  | none=>
    have hx:ys=[]:=List.eq_nil_of_length_eq_zero (by have:=e4 rfl;omega)
    subst hx
    exact ⟨[],fun w'=>by simp [Builtin.lenOf],fun w' _=>by simp [Builtin.firstCells],by simp [RepVs],by simp,by simp⟩
  | some ad=>
    obtain ⟨f1,f2⟩:=RepEs.toFlat (e6 ad rfl)
    obtain ⟨us,g1,g2,g3⟩:=RepCs.load f2
    refine ⟨us,fun w'=>by simp [Builtin.lenOf],fun w' hw=>?_,g3,f1,fun v hv=>?_⟩
    ·refine run_firstCells_some w' k' ys.length ad ys.length cap us (by rw [g1,flat_length f1]) (fun j v hj=>?_)
     have:=(g2 j v hj).1
     have hs:ad.spot=none:=e5 ad rfl (fun e=>by subst e;simp at g1;rw [g1] at hj;simp at hj)
     have hadd:ad.add j=⟨ad.block,ad.off+j,none⟩:=by
      unfold Addr.add
      split
      ·rename_i h0;rw [h0];cases ad;simp_all
      ·rfl
     rw [hadd]
     simpa [World.cell?,hw] using this
    ·obtain ⟨j,hj⟩:=List.mem_iff_getElem?.1 hv
     exact (g2 j v hj).2
 ·cases h
  simp only [Rep] at hu
  subst hu
  exact ⟨[],fun w'=>by simp [Builtin.lenOf],fun w' _=>by simp [Builtin.firstCells],by simp [RepVs],by simp,by simp⟩
 ·split at h<;>try contradiction
  cases h
  simp only [Rep] at hu
  obtain ⟨a,cap,rfl,_⟩:=hu
  exact ⟨[],fun w'=>by simp [Builtin.lenOf],fun w' _=>run_firstCells_some w' k 0 a 0 cap [] (by simp) (by simp),by simp [RepVs],by simp,by simp⟩
 ·rename_i s
  split at h<;>try contradiction
  rename_i hk
  have hk:=Nat.eq_of_beq_eq_true hk
  cases h
  subst hk
  rw [Rep] at hu
  obtain ⟨b,rfl,rfl,hl⟩:=hu
  refine ⟨b.data.toList.map fun x=>.int .u8 (x.toNat:Int),fun w'=>?_,fun w' _=>?_,?_,by simp,?_⟩
  ·simp [Builtin.lenOf]
  ·simp [Builtin.firstCells]
   try exact Array.ext' (by simp)
  ·have key:∀ l:List UInt8,RepVs c (l.map fun b=>[AV.int .u8 (b.toNat:Int)]).flatten (l.map fun x=>.int .u8 (x.toNat:Int)):=by
    intro l
    induction l with
    | nil=>simp [RepVs]
    | cons x l ih=>
      simp only [List.map_cons,List.flatten_cons,List.singleton_append,RepVs]
      refine ⟨_,_,rfl,?_,ih⟩
      rw [Rep]
      have:=x.toNat_lt
      exact ⟨rfl,by constructor<;>simp [IntKind.min,IntKind.max,IntKind.signed,IntKind.bits]<;>omega⟩
   exact key _
  ·intro v hv
   simp at hv
   obtain ⟨x,_,rfl⟩:=hv
   rfl
 ·cases h
def NextL (X:Nat→Prop) (g0:Gh) (h:Heap) (w:World) (K:AV→Heap→Prop) (d:Option Tmp) (a:Act) (next:Act→World→Prop):Prop:=
 ∀ v h' g' u w',K v h'→CW X g' h' w'→Rep ⟨g',live X h',w'⟩ v u→Step X g0 h w g' h' w'→next (a.put d u) w'
theorem RepCs.in {c:Cx} {us:List Value} {b:Nat}:∀ {cs:List AV} {l:List Value} {o:Nat},RepVs c cs l →
  (∀ j u,l[j]?=some u→c.w.cell? ⟨b,o+j,none⟩=some u∧u.oneCell'=true∧c.fr b (o+j))→RepCs c cs b o
 | [],l,o,_,_=>by simp [RepCs]
 | x::cs,l,o,h,hl=>by
   simp only [RepVs] at h
   obtain ⟨u,r,rfl,h1,h2⟩:=h
   simp only [RepCs]
   obtain ⟨e1,e2,e3⟩:=hl 0 u (by simp)
   exact ⟨⟨u,by simpa using e1,e2,by simpa using e3,h1⟩,RepCs.in (us:=us) h2 (fun j v hv=>by
    have:=hl (j+1) v (by simpa using hv)
    rw [show o+1+j=o+(j+1) from by omega];exact this)⟩
theorem RepEs.append {c:Cx} {k:Nat}:∀ {xs ys:List (List AV)} {b o:Nat},RepEs c k xs b o→RepEs c k ys b (o+xs.length*k)→RepEs c k (xs++ys) b o
 | [],ys,b,o,_,h=>by simpa using h
 | x::xs,ys,b,o,h,h'=>by
   simp only [List.cons_append,RepEs] at h ⊢
   refine ⟨h.1,RepEs.append h.2 ?_⟩
   simp only [List.length_cons,Nat.add_mul,Nat.one_mul] at h'
   rw [show o+k+xs.length*k=o+(xs.length*k+k) from by omega];exact h'
theorem grown_ok {K:AV→Heap→Prop} {d:Option Tmp} {next:Act→World→Prop} (hc:CW X g0 h w) {xs:List (List AV)} {us:List Value} {k:Nat} {Z:Array Value} {e:TypeId} {cap:Nat}
  (hus:RepVs ⟨g0,live X h,w⟩ xs.flatten us) (hk:∀ x∈xs,x.length=k) (h1:∀ v∈us,v.oneCell'=true) (hk0:0<k) (hlen:xs.length≤AMAX) (hcap:xs.length≤cap)
  (hsz:us.length+Z.size=cap*k) (hq:∀ q,K (.sl k (some q) xs) ((q,.tok)::h)) (hn:NextL X g0 h w K d a next) :
  next (a.put d (.slice (some ⟨w.heap.size,0,none⟩) xs.length cap)) (w.drew.alloc (.cells (us.toArray++Z) e)):=by
 obtain ⟨c1,s1⟩:=hc.drew
 obtain ⟨q,f1,f2,st,mk⟩:=c1.newAt (.cells (us.toArray++Z) e) (xs.length*k)
 have hul:us.length=xs.length*k:=by rw [hus.length,flat_length hk]
 have hcw:=mk .tok (by
  intro p hp
  simp only [Gh.set,if_true] at hp
  cases hp
  exact ⟨rfl,by simp [Gh.set],us.toArray++Z,e,heap_alloc_new w.drew _⟩)
 have hst:=s1.trans hc.own (st .tok)
 refine hn _ _ _ _ _ (hq q) hcw ?_ hst
 simp only [Rep]
 have hmono:Cx.Le ⟨g0,live X h,w⟩ _:=Step.le hst
 refine ⟨_,cap,rfl,hcap,by unfold LMAX;unfold AMAX at hlen;omega,hk0,by simp,by simp,?_,?_⟩
 ·intro ad ha
  simp at ha;subst ha
  refine RepEs.flat hk (RepCs.in (us:=us) (l:=us) (RepVs.mono hmono _ _ hus) ?_)
  intro j u hu
  have hj:j<us.length:=(List.getElem?_eq_some_iff.1 hu).1
  refine ⟨?_,h1 u (List.mem_of_getElem? hu),?_⟩
  ·show (w.drew.alloc _).cell? ⟨w.drew.heap.size,0+j,none⟩=_
   rw [World.cell?_alloc_new,Nat.zero_add,Array.getElem?_append_left (by simpa using hj)]
   simpa using hu
  ·intro kk s hs _
   have hs':some (q,xs.length*k)=some (kk,s):=by
    have h2:=hs
    simp only [Gh.set] at h2
    rwa [if_pos (show w.heap.size=w.drew.heap.size from rfl)] at h2
   cases hs'
   show 0+j<xs.length*k
   rw [← hul];omega
 ·intro q' hq'
  cases hq'
  right
  refine ⟨_,rfl,rfl,by simp [Gh.set],?_⟩
  refine ⟨_,_,_,heap_alloc_new w.drew _,?_⟩
  simp only [Array.size_append,List.size_toArray];omega
end Go.Abs
/-
 The abstract layer,part H: all operations that make or turn own objects.
-/
namespace Go.Abs
open Go
variable {P:Program} {n:Nat} {X:Nat→Prop} {g0:Gh} {r:Regs} {h:Heap} {a:Act} {w:World}
theorem CW.sub {h':Heap} (hc:CW X g0 h w) (hsub:∀ k o,(k,o)∈h'→(k,o)∈h) (hnd:(keys h').Nodup):CW X g0 h' w∧Step X g0 h w g0 h' w:=by
 have hk:∀ k,k∈keys h'→k∈keys h:=by
  intro k hk
  simp only [keys,List.mem_map] at hk ⊢
  obtain ⟨⟨k',o⟩,hm,rfl⟩:=hk
  exact ⟨_,hsub _ _ hm,rfl⟩
 have hst:Step X g0 h w g0 h' w:=
  ⟨rfl,⟨rfl,Nat.le_refl _⟩,rfl,Nat.le_refl _,fun _ _ e=>e,fun _ _ _ e _=>e,fun _ _ _ e _=>e,fun _ _ e=>e,fun _ _ e=>⟨rfl,fun k s hb hm=>e k s hb (hk k hm)⟩,
    fun _ _ _ _ _ cc _ _ e=>⟨cc,e,rfl,fun _ _=>rfl⟩,fun _ _ _ e _ _ _ e' _=>by rw [e] at e';cases e';exact Nat.le_refl _⟩
 refine ⟨⟨hc.own,?_,hnd,fun k hm=>hc.sep k (hk k hm),fun k o hm=>?_⟩,hst⟩
 ·obtain ⟨N,hN⟩:=hc.bound
  refine ⟨N,fun k hm=>hN k ?_⟩
  rcases hm with hx|hm|hm
  ·exact .inl hx
  ·exact .inr (.inl (hk k hm))
  ·exact .inr (.inr hm)
 ·exact ObjRep.keep (c:=⟨g0,live X h,w⟩) (Step.le hst) (hc.obj k o (hsub k o hm)) (fun p _ _=>⟨rfl,rfl⟩) (fun e=>e)
theorem CW.newKey (hc:CW X g0 h w):∃ k,CW X g0 ((k,.tok)::h) w∧Step X g0 h w g0 ((k,.tok)::h) w:=by
 obtain ⟨k,f1,f2,f3,f4⟩:=hc.fresh
 have hst:Step X g0 h w g0 ((k,.tok)::h) w:=by
  refine ⟨rfl,⟨rfl,Nat.le_refl _⟩,rfl,Nat.le_refl _,fun _ _ e=>e,fun _ _ _ e _=>e,fun _ _ _ e _=>e,fun _ _ e=>e,fun b hb e=>⟨rfl,fun k' s hb' hm=>?_⟩,
   fun _ _ _ _ _ cc _ _ e=>⟨cc,e,rfl,fun _ _=>rfl⟩,fun _ _ _ e _ _ _ e' _=>by rw [e] at e';cases e';exact Nat.le_refl _⟩
  simp [keys] at hm
  rcases hm with rfl|⟨x,hx⟩
  ·exact f4 _ _ hb'
  ·exact e k' s hb' (by simp [keys];exact ⟨x,hx⟩)
 refine ⟨k,⟨hc.own,?_,?_,?_,?_⟩,hst⟩
 ·obtain ⟨N,hN⟩:=hc.bound
  refine ⟨max N (k+1),fun k' hk'=>?_⟩
  by_cases e:k'=k
  ·subst e;omega
  ·have:k'<N:=by
    rcases hk' with hx|hk'|hp
    ·exact hN _ (.inl hx)
    ·simp [keys,e] at hk'
     obtain ⟨x,hx⟩:=hk'
     exact hN _ (.inr (.inl (by simp [keys];exact ⟨x,hx⟩)))
    ·exact hN _ (.inr (.inr hp))
   omega
 ·simp only [keys,List.map_cons,List.nodup_cons]
  exact ⟨f2,hc.nodup⟩
 ·intro k' hk'
  simp [keys] at hk'
  rcases hk' with rfl|⟨x,hx⟩
  ·exact f1
  ·exact hc.sep k' (by simp [keys];exact ⟨x,hx⟩)
 ·intro k' o' hm
  rcases List.mem_cons.1 hm with e|hm
  ·cases e
   intro p hp
   simp only at hp
   rw [f3] at hp;cases hp
  ·exact ObjRep.keep (c:=⟨g0,live X h,w⟩) (Step.le hst) (hc.obj k' o' hm) (fun p _ _=>⟨rfl,rfl⟩) (fun e=>e)
theorem CW.newVec (hc:CW X g0 h w) {l:List AV} {us:Array Value} (t:TypeId) (hr:RepVs ⟨g0,live X h,w⟩ l us.toList) (h1:∀ u∈us,u.oneCell'=true) :
  ∃ k g',g'.pl k=some ⟨w.heap.size,0,none⟩∧CW X g' ((k,.vec l)::h) (w.alloc (.cells us t))∧Step X g0 h w g' ((k,.vec l)::h) (w.alloc (.cells us t)):=by
 obtain ⟨k,f1,f2,st,mk⟩:=hc.newAt (.cells us t) 0
 refine ⟨k,_,by simp [Gh.set],mk (.vec l) ?_,st (.vec l)⟩
 have hl:=hr.length
 refine ⟨⟨w.heap.size,0,none⟩,us,t,by simp [Gh.set],rfl,by simp [Gh.set],heap_alloc_new w _,by simp at hl ⊢;omega,?_⟩
 intro i x hx
 obtain ⟨u,hu,hrep⟩:=hr.get i x hx
 have hu':us[i]?=some u:=by simpa using hu
 exact ⟨u,by simpa using hu',h1 u (Array.mem_of_getElem? hu'),Rep.mono (Step.le (st (.vec l))) _ _ hrep⟩
theorem made_eq (z:Array Value) (hz:0<z.size):∀ m:Nat,(madeCells z (m*z.size)).toList=(List.replicate m z.toList).flatten
 | 0=>by simp [madeCells]
 | m+1=>by
   have ih:=made_eq z hz m
   simp only [madeCells,Array.toList_map,Array.toList_range] at ih ⊢
   rw [Nat.add_mul,Nat.one_mul,Nat.add_comm,List.range_add,List.map_append,List.map_map,List.replicate_succ,List.flatten_cons,← ih]
   congr 1
   ·apply List.ext_getElem
    ·simp
    ·intro i h1 h2
     simp at h1
     simp [Nat.mod_eq_of_lt h1]
     rw [getElem!_pos z i h1]
   ·apply List.map_congr_left
    intro j _
    simp
theorem RepVs.repl {c:Cx} {z:List AV} {us:List Value} (hz:RepVs c z us):∀ m:Nat,RepVs c (repC m z) (List.replicate m us).flatten
 | 0=>by simp [repC,RepVs]
 | m+1=>by
   have:=RepVs.repl hz m
   simp only [repC] at this ⊢
   rw [List.replicate_succ,List.replicate_succ,List.flatten_cons,List.flatten_cons]
   exact RepVs.append hz this
theorem room_ok {l1 l2:Heap} {q:Nat} {k m cap len:Nat} {ad:Addr} {news:List Value} (hc:CW X g0 (l1++(q,.tok)::l2) w)
  (hp:g0.pl q=some ⟨ad.block,ad.off+len*k,none⟩) (hb:World.blockHas w ad.block (ad.off+cap*k)) (hn:news.length=m*k) (hroom:len+m≤cap)
  (h1:∀ v∈news,v.oneCell'=true) :
  (storeCells (⟨ad.block,ad.off+len*k,none⟩:Addr) news).run P w=.ok () (w.setCells ad.block (ad.off+len*k) news) ∧
  ∃ q' g',q' ∉ keys (l1++(q,.tok)::l2)∧g'.pl q'=some ⟨ad.block,ad.off+(len+m)*k,none⟩∧g'.ow ad.block=some (q',ad.off+(len+m)*k) ∧
   CW X g' (l1++(q',.tok)::l2) (w.setCells ad.block (ad.off+len*k) news) ∧
   Step X g0 (l1++(q,.tok)::l2) w g' (l1++(q',.tok)::l2) (w.setCells ad.block (ad.off+len*k) news) ∧
   World.blockHas (w.setCells ad.block (ad.off+len*k) news) ad.block (ad.off+cap*k) ∧
   ∀ j u,news[j]?=some u→(w.setCells ad.block (ad.off+len*k) news).cell? ⟨ad.block,ad.off+len*k+j,none⟩=some u:=by
 have hob:=hc.obj q .tok (by simp)
 obtain ⟨_,how,cc,t,hcc⟩:=hob _ hp
 simp only at how hcc
 obtain ⟨cc2,t2,f2,hcc2,hsz⟩:=hb
 rw [hcc] at hcc2
 obtain ⟨rfl,rfl,rfl⟩:cc=cc2∧t=t2∧(0,0)=f2:=by injection hcc2 with e;injection e with e1 e2 e3;exact ⟨e1,e2,e3⟩
 have hle:ad.off+len*k+news.length≤cc.size:=by
  have:=Nat.mul_le_mul_right k hroom
  rw [Nat.add_mul] at this
  omega
 obtain ⟨cc',e1,e2,e3,e4,e5,e6,e7,e8,e9⟩:=setCells_heap ad.block news (ad.off+len*k) w cc t (0,0) hcc hle
 have hqk:q∈keys (l1++(q,.tok)::l2):=by rw [keys_mem];exact .inl rfl
 constructor
 ·have hst:=run_storeCells_cells (P:=P) ad.block (ad.off+len*k) news 0 w
   (fun j hj=>by
     simp only [Nat.add_zero]
     rw [cell_of_row w ad.block _ cc t _ hcc]
     have:ad.off+len*k+j<cc.size:=by omega
     simp [this])
   (fun j hj=>frozen_of_row w ad.block _ cc t hcc) h1
  simpa only [Nat.add_zero] using hst
 ·obtain ⟨q',f1,f2,f3,f4⟩:=hc.fresh
  have hqq:q'≠q:=fun e=>f2 (e ▸ hqk)
  have hst:Step X g0 (l1++(q,.tok)::l2) w (g0.set q' (some ⟨ad.block,ad.off+(len+m)*k,none⟩) (some (ad.block,ad.off+(len+m)*k))) (l1++(q',.tok)::l2)
    (w.setCells ad.block (ad.off+len*k) news):=by
   refine ⟨e7,e8,e9,by omega,?_,?_,?_,?_,?_,?_,?_⟩
   ·intro k' p hk'
    simp only [Gh.set]
    split
    ·rename_i e;subst e;rw [f3] at hk';cases hk'
    ·exact hk'
   ·intro b k' s hb hx
    simp only [Gh.set]
    split
    ·rename_i e;subst e;rw [how] at hb;cases hb;exact absurd hx (hc.sep _ hqk)
    ·exact hb
   ·intro b k' s hb hx
    simp only [Gh.set] at hb
    split at hb
    ·cases hb;exact absurd hx f1
    ·exact hb
   ·intro k' hx hp'
    simp only [Gh.set]
    split
    ·rename_i e;subst e;exact absurd hx f1
    ·exact hp'
   ·intro b hb hno
    have hne:b≠ad.block:=fun e=>hno q _ (e ▸ how) hqk
    refine ⟨e5 b hne,fun k' s hb' hm=>?_⟩
    simp only [Gh.set,if_neg hne] at hb'
    rw [keys_mem] at hm
    rcases hm with rfl|hm
    ·exact f4 _ _ hb'
    ·exact hno k' s hb' ((keys_mem _ _ _ _ _).2 (.inr hm))
   ·intro b k' s hb hm dd tt ff hdd
    by_cases e:b=ad.block
    ·subst e
     rw [how] at hb;cases hb
     rw [hcc] at hdd;cases hdd
     exact ⟨cc',e1,e2,fun o ho=>e3 o (.inl ho)⟩
    ·exact ⟨dd,(e5 b e).trans hdd,rfl,fun _ _=>rfl⟩
   ·intro b k' s hb hm k'' s'' hb'' _
    by_cases e:b=ad.block
    ·subst e
     rw [how] at hb;cases hb
     simp only [Gh.set,if_true] at hb''
     cases hb''
     rw [Nat.add_mul];omega
    ·simp only [Gh.set,if_neg e] at hb''
     rw [hb] at hb'';cases hb'';exact Nat.le_refl _
  refine ⟨q',_,f2,by simp [Gh.set],by simp [Gh.set],?_,hst,⟨cc',t,_,e1,by omega⟩,?_⟩
  ·refine hc.replace hst ?_ (.inr ⟨f1,f2⟩) ?_ ?_ ?_ ?_
   ·intro blk k' s hb
    simp only [Gh.set] at hb
    split at hb
    ·rename_i e;subst e;have:=hc.own _ _ _ how;omega
    ·have:=hc.own _ _ _ hb;omega
   ·intro k' hk'
    by_cases e:k'=q'
    ·exact .inl e
    ·simp only [Gh.set,if_neg e] at hk';exact .inr hk'
   ·intro blk s k' hb
    simp only [Gh.set] at hb
    split at hb
    ·cases hb;exact .inl rfl
    ·exact .inr ⟨_,_,hb⟩
   ·intro blk k' s hb hm
    have hne:blk≠ad.block:=by
     intro e;rw [e,how] at hb;cases hb
     exact hc.notmem hm
    exact ⟨e5 blk hne,by simp only [Gh.set,if_neg hne]⟩
   ·intro p hp'
    simp only [Gh.set,if_true] at hp'
    cases hp'
    exact ⟨rfl,by simp [Gh.set],cc',t,e1⟩
  ·intro j u hu
   have hj:=(List.getElem?_eq_some_iff.1 hu).1
   rw [cell_of_row _ ad.block _ cc' t _ e1,e4 j hj,← hu,List.getElem?_eq_getElem hj]
theorem NextL.of {K K':AV→Heap→Prop} {d:Option Tmp} {next:Act→World→Prop} (hn:NextL X g0 h w K d a next)
  (hk:∀ v h',K' v h'→∃ h'',K v h''∧(∀ k o,(k,o)∈h''→(k,o)∈h')∧((keys h').Nodup→(keys h'').Nodup)) (hc:CW X g0 h w):NextL X g0 h w K' d a next:=by
 intro v h' g' u w' hK c1 c2 c3
 obtain ⟨h'',k1,k2,k3⟩:=hk v h' hK
 obtain ⟨d1,d2⟩:=c1.sub k2 (k3 c1.nodup)
 exact hn v h'' g' u w' k1 d1 (Rep.mono (Step.le d2) _ _ c2) (c3.trans hc.own d2)
theorem append_okS {l1 l2:Heap} {q k:Nat} {xs ys:List (List AV)} {u uy:Value} {t tx ty e:TypeId} {K:AV→Heap→Prop} {next:Act→World→Prop} {o:Oper}
  {Q:Exit→Act→World→Prop} (hc:CW X g0 (l1++(q,.tok)::l2) w) (ht:P.underlying t=some (.slice e)) (htx:srcTy P tx=true) (hk0:1≤P.cellsOf e) (hbt:P.bytesOf e≤4096)
  {z:List AV} (hz:zeroCs P e=some z) (hzl:z.length=P.cellsOf e) (hk:k=P.cellsOf e) (hsrc:∃ news:List Value,(∀ w',(Builtin.lenOf uy).run P w'=.ok ys.length w')∧(∀ w':World,w'.heap=w.heap→(Builtin.firstCells k ys.length uy).run P w'=.ok news.toArray w') ∧
   RepVs ⟨g0,live X (l1++(q,.tok)::l2),w⟩ ys.flatten news∧(∀ x∈ys,x.length=k)∧(∀ v∈news,v.oneCell'=true)) (hmax:(xs++ys).length≤AMAX)
  (hx:Rep ⟨g0,live X (l1++(q,.tok)::l2),w⟩ (.sl k (some q) xs) u)
  (hrun:∀ s w',(Builtin.append_ #[t,tx] ty #[u,uy]).run P w=.ok s w'→(execOp a.eval o).run P w=.ok (.value s) w')
  (hK:∀ q',∃ h',Upd q .tok q' .tok (l1++(q,.tok)::l2) h'∧K (.sl k (some q') (xs++ys)) h') (hn:NextL X g0 (l1++(q,.tok)::l2) w K o.dst a next):o.wp P a w next Q:=by
 obtain ⟨i,zv,hi,hzv,hzr,hz1⟩:=zeroCs_ok (c:=⟨g0,live X (l1++(q,.tok)::l2),w⟩) hz
 have hisz:i.size=P.cellsOf e:=by simp [Program.cellsOf,hi]
 have hib:i.bytes=P.bytesOf e:=by simp [Program.bytesOf,hi]
 have hzs:zv.cells.size=P.cellsOf e:=by have:=hzr.length;simp at this;omega
 obtain ⟨news,n1,n2,n3,n4,n5⟩:=hsrc
 have hnl:news.length=ys.length*k:=by rw [n3.length,flat_length n4]
 have hx0:=hx
 simp only [Rep] at hx
 obtain ⟨base,cap,rfl,x1,x2,x3,x4,x5,x6,x7⟩:=hx
 have hupd:∀ q' h',Upd q .tok q' .tok (l1++(q,.tok)::l2) h'→h'=l1++(q',.tok)::l2:=by
  intro q' h' hu
  obtain ⟨m1,m2,e1,e2⟩:=Upd.split hu
  -- keys are different from one another
  have hnd:=hc.nodup
  have key:∀ (l1 m1 l2 m2:Heap),(keys (l1++(q,.tok)::l2)).Nodup→l1++(q,Ob.tok)::l2=m1++(q,.tok)::m2→l1=m1∧l2=m2:=by
   intro l1
   induction l1 with
   | nil=>
     intro m1 l2 m2 hnd he
     cases m1 with
     | nil=>simp at he;exact ⟨rfl,he⟩
     | cons x m1=>
       simp at he
       obtain ⟨rfl,rfl⟩:=he
       simp [keys] at hnd
   | cons x l1 ih=>
     intro m1 l2 m2 hnd he
     cases m1 with
     | nil=>
       simp at he
       obtain ⟨rfl,rfl⟩:=he
       simp [keys] at hnd
     | cons y m1=>
       simp at he
       obtain ⟨rfl,he⟩:=he
       have hnd':(keys (l1++(q,.tok)::l2)).Nodup:=by
        simp only [keys,List.cons_append,List.map_cons,List.nodup_cons] at hnd ⊢
        exact hnd.2
       obtain ⟨rfl,rfl⟩:=ih m1 l2 m2 hnd' he
       exact ⟨rfl,rfl⟩
  obtain ⟨rfl,rfl⟩:=key _ _ _ _ hnd e1
  exact e2
 by_cases hroom:xs.length+ys.length≤cap
 ·by_cases hm:ys=[]
  · -- nothing
   subst hm
   have hn0:news=[]:=List.eq_nil_of_length_eq_zero (by rw [hnl];simp)
   subst hn0
   obtain ⟨h',hu,hK⟩:=hK q
   have:=hupd _ _ hu;subst this
   refine wp_value (w':=w) (hrun _ _ (run_append_room' (w':=w) (m:=0) (i:=i) ht htx hi (by simpa using n1) (by simpa [hisz,hk] using n2 w rfl) (by omega) ?_ (fun _=>rfl))) ?_
   ·intro ad _;simp [storeCells]
   ·refine hn _ _ g0 _ w hK hc ?_ (Step.refl _ _ _ _)
    simpa using hx0
  ·have hpos:0<ys.length:=List.length_pos_iff.2 hm
   rcases x7 q rfl with x7|⟨ad,ha,hs,hp,hbh⟩
   ·omega
   ·subst ha
    obtain ⟨st,q',g',f1,f2,f3,f4,f5,f6,f7⟩:=room_ok (P:=P) (m:=ys.length) hc hp hbh hnl hroom n5
    obtain ⟨h',hu,hK⟩:=hK q'
    have:=hupd _ _ hu;subst this
    have hadd:∀ j,ad.add j=⟨ad.block,ad.off+j,none⟩:=by
     intro j
     unfold Addr.add
     split
     ·rename_i h0;rw [h0];cases ad;simp_all
     ·rfl
    refine wp_value (hrun _ _ (run_append_room' (m:=ys.length) (i:=i) ht htx hi n1 (by rw [hisz,← hk];exact n2 w rfl) hroom
     (w':=w.setCells ad.block (ad.off+xs.length*k) news) ?_ (fun e=>by cases e))) ?_
    ·intro ad' he;cases he
     rw [hadd,hisz,← hk];exact st
    ·refine hn _ _ g' _ _ hK f4 ?_ f5
     simp only [Rep]
     refine ⟨some ad,cap,by simp,by simpa using hroom,by unfold LMAX;unfold AMAX at hmax;omega,x3,by simp,fun a' ha' _=>by cases ha';exact hs,?_,?_⟩
     ·intro a' ha';cases ha'
      refine RepEs.append (RepEs.mono (Step.le f5) _ _ _ _ (x6 ad rfl)) ?_
      refine RepEs.flat n4 (RepCs.in (us:=news) (l:=news) (RepVs.mono (Step.le f5) _ _ n3) ?_)
      intro j v hj
      have hjl:=(List.getElem?_eq_some_iff.1 hj).1
      refine ⟨f7 j v hj,n5 v (List.mem_of_getElem? hj),?_⟩
      intro kk s hs' _
      simp only at hs'
      rw [f3] at hs';cases hs'
      rw [Nat.add_mul];omega
     ·intro q2 hq2;cases hq2
      exact .inr ⟨ad,rfl,hs,by simp only [f2,List.length_append],f6⟩
 · -- a new row
  obtain ⟨olds,o1,o2,o3,o4,o5⟩:=src_ok (k:=k) (y:=.sl k (some q) xs) (ys:=xs) (c:=⟨g0,live X (l1++(q,.tok)::l2),w⟩) (by simp [srcOf,Nat.beq_refl]) hx0
  have hg:cap<xs.length+ys.length:=by omega
  have hrn:=run_append_grow' (P:=P) (w:=w) (ty:=ty) (i:=i) (z:=zv) (m:=ys.length) ht htx hi hzv n1 (by rw [hisz,← hk];exact n2 w.drew rfl) (base:=base)
   (by rw [hisz,← hk];exact o2 w.drew rfl) hg (by simpa using hmax) (by omega)
  refine wp_value (hrun _ _ hrn) ?_
  have hcapw:=grownCap_ge w (xs.length+ys.length) cap e
  have hfin:=grown_ok (K:=fun v h'=>∃ q',v=.sl k (some q') (xs++ys)∧h'=(q',.tok)::(l1++(q,.tok)::l2)) (xs:=xs++ys) (us:=olds++news) (k:=k) (e:=e)
   (cap:=grownCap w (xs.length+ys.length) cap e) (Z:=Builtin.zeroCells zv.cells (grownCap w (xs.length+ys.length) cap e - (xs.length+ys.length)))
   (d:=o.dst) (a:=a) (next:=next) hc (by simpa using RepVs.append o3 n3) (by intro x hx;rcases List.mem_append.1 hx with h|h;exact o4 x h;exact n4 x h)
   (by intro v hv;rcases List.mem_append.1 hv with h|h;exact o5 v h;exact n5 v h) x3 hmax (by simpa using hcapw) ?_ (fun q'=>⟨q',rfl,rfl⟩) (hn.of ?_ hc)
  ·simpa using hfin
  ·rw [size_zeroCells,hzs,← hk,List.length_append,hnl,o3.length,flat_length o4,← Nat.add_mul,← Nat.add_mul]
   congr 1;omega
  ·rintro v h' ⟨q',rfl,rfl⟩
   obtain ⟨h',hu,hK⟩:=hK q'
   have:=hupd _ _ hu;subst this
   refine ⟨_,hK,?_,?_⟩
   ·intro k' o' hm
    simp only [List.mem_append,List.mem_cons] at hm ⊢
    rcases hm with h|h|h
    ·exact .inr (.inl h)
    ·exact .inl h
    ·exact .inr (.inr (.inr h))
   ·intro hnd
    rw [keys_app]
    simp only [keys,List.map_cons,List.map_append,List.nodup_cons,List.nodup_append,List.mem_append,List.mem_cons,not_or] at hnd ⊢
    obtain ⟨⟨a1,a2,a3⟩,b1,⟨b2,b3⟩,b4⟩:=hnd
    refine ⟨b1,⟨a3,b3⟩,fun x hx y hy=>?_⟩
    rcases hy with rfl|hy
    ·rintro rfl;exact a1 hx
    ·exact b4 x hx y (.inr hy)
theorem append_ok {l1 l2:Heap} {q k:Nat} {xs ys:List (List AV)} {y:AV} {u uy:Value} {t tx ty e:TypeId} {K:AV→Heap→Prop} {next:Act→World→Prop} {o:Oper}
  {Q:Exit→Act→World→Prop} (hc:CW X g0 (l1++(q,.tok)::l2) w) (ht:P.underlying t=some (.slice e)) (htx:srcTy P tx=true) (hk0:1≤P.cellsOf e) (hbt:P.bytesOf e≤4096)
  {z:List AV} (hz:zeroCs P e=some z) (hzl:z.length=P.cellsOf e) (hk:k=P.cellsOf e) (hys:srcOf k y=some ys) (hmax:(xs++ys).length≤AMAX)
  (hx:Rep ⟨g0,live X (l1++(q,.tok)::l2),w⟩ (.sl k (some q) xs) u) (hy:Rep ⟨g0,live X (l1++(q,.tok)::l2),w⟩ y uy)
  (hrun:∀ s w',(Builtin.append_ #[t,tx] ty #[u,uy]).run P w=.ok s w'→(execOp a.eval o).run P w=.ok (.value s) w')
  (hK:∀ q',∃ h',Upd q .tok q' .tok (l1++(q,.tok)::l2) h'∧K (.sl k (some q') (xs++ys)) h') (hn:NextL X g0 (l1++(q,.tok)::l2) w K o.dst a next):o.wp P a w next Q:=by
 exact append_okS hc ht htx hk0 hbt hz hzl hk (src_ok hys hy) hmax hx hrun hK hn
end Go.Abs
/-
 The abstract layer,part I0: ranging over an own map.
-/
namespace Go.Abs
open Go
def Alk (w1 w:World):Prop:=w1.Alike w∧(w1.tape=w.tape∧w.drawn≤w1.drawn)
variable {P:Program} {n:Nat} {X:Nat→Prop} {g0:Gh} {r:Regs} {h:Heap} {a:Act} {w:World}
theorem EntsRep.len {c:Cx}:∀ {es:List (AV × AV)} {ents:List MapEntry},EntsRep c es ents→es.length=ents.length
 | [],_,h=>by rw [h];rfl
 | x::es,_,h=>by obtain ⟨e,r,rfl,_,_,h⟩:=h;simp [EntsRep.len h]
theorem EntsRep.get {c:Cx}:∀ {es:List (AV × AV)} {ents:List MapEntry} {i:Nat} {x:AV × AV},EntsRep c es ents→es[i]?=some x→∃ e,ents[i]?=some e∧Rep c x.1 e.key∧Rep c x.2 e.val
 | [],_,i,x,_,hx=>by cases hx
 | y::es,_,0,x,h,hx=>by
   obtain ⟨e,r,rfl,a1,a2,h⟩:=h
   simp at hx;subst hx
   exact ⟨e,rfl,a1,a2⟩
 | y::es,_,i+1,x,h,hx=>by
   obtain ⟨e,r,rfl,a1,a2,h⟩:=h
   obtain ⟨e',h1,h2⟩:=EntsRep.get h (by simpa using hx)
   exact ⟨e',by simpa using h1,h2⟩
theorem map_ranged {l1 l2:Heap} {b:Nat} {es:List (AV × AV)} (hc:CW X g0 (l1++(b,.map es)::l2) w):∃ p bs cl ents,bs.length=es.length∧bs.Nodup∧g0.pl b=some p∧w.heap[p.block]?=some (.map ents cl) ∧
  CW X g0 (l1++(b,.rmap es bs cl)::l2) w∧Step X g0 (l1++(b,.map es)::l2) w g0 (l1++(b,.rmap es bs cl)::l2) w:=by
 obtain ⟨p,cl,ents,o1,o2,o3,o4,o5,o6⟩:=hc.obj b (.map es) (by simp)
 have hst:Step X g0 (l1++(b,.map es)::l2) w g0 (l1++(b,.rmap es (ents.toList.map (·.born)) cl)::l2) w:=by
  refine ⟨rfl,⟨rfl,Nat.le_refl _⟩,rfl,Nat.le_refl _,fun _ _ e=>e,fun _ _ _ e _=>e,fun _ _ _ e _=>e,fun _ _ e=>e,?_,?_,?_⟩
  ·intro blk hlt hn
   refine ⟨rfl,fun k s hk hm=>hn k s hk ?_⟩
   rw [keys_mem] at hm ⊢;exact hm
  ·intro blk k s hk hm dd tt ff hdd
   exact ⟨dd,hdd,rfl,fun _ _=>rfl⟩
  ·intro blk k s hk _ k' s' hk' _
   rw [hk] at hk';cases hk';exact Nat.le_refl _
 refine ⟨p,_,cl,ents,by simp [EntsRep.len o4],o6,o1,o3,?_,hst⟩
 refine hc.replace hst hc.own (.inl rfl) (fun k hk=>.inr hk) (fun blk s k hk=>.inr ⟨blk,s,hk⟩) (fun blk k s hk hm=>⟨rfl,rfl⟩) ?_
 exact ⟨p,ents,o1,o2,o3,EntsRep.mono (Step.le hst) o4,o5,o6,rfl⟩
theorem iter_store {l1 l2:Heap} {b m cl:Nat} {seen seen':List Nat} {p pm:Addr} {sa sa':Array Nat} {w1:World} (hc:CW X g0 (l1++(b,.iter m cl seen)::l2) w) (ha:Alk w1 w) (hp:g0.pl b=some p) (ho:g0.ow p.block=some (b,0))
  (hb:w.heap[p.block]?=some (.mapIter (some pm.block) cl sa cl)) (hpm:g0.pl m=some pm) (hs:sa'.toList=seen') :
  CW X g0 (l1++(b,.iter m cl seen')::l2) { w1 with heap:=w1.heap.setIfInBounds p.block (.mapIter (some pm.block) cl sa' cl) } ∧
  Step X g0 (l1++(b,.iter m cl seen)::l2) w g0 (l1++(b,.iter m cl seen')::l2) { w1 with heap:=w1.heap.setIfInBounds p.block (.mapIter (some pm.block) cl sa' cl) }:=by
 obtain ⟨⟨a1,a2,a3⟩,a4⟩:=ha
 have hlt:p.block<w.heap.size:=(Array.getElem?_eq_some_iff.1 hb).1
 have hoth:∀ blk,blk≠p.block→(w1.heap.setIfInBounds p.block (.mapIter (some pm.block) cl sa' cl))[blk]?=w.heap[blk]?:=fun blk hne=>by rw [Array.getElem?_setIfInBounds_ne (Ne.symm hne),a1]
 have hbk:b∈keys (l1++(b,.iter m cl seen)::l2):=by rw [keys_mem];exact .inl rfl
 have hst:Step X g0 (l1++(b,.iter m cl seen)::l2) w g0 (l1++(b,.iter m cl seen')::l2) { w1 with heap:=w1.heap.setIfInBounds p.block (.mapIter (some pm.block) cl sa' cl) }:=by
  refine ⟨a2,a4,a3,by simp [a1],fun _ _ e=>e,fun _ _ _ e _=>e,fun _ _ _ e _=>e,fun _ _ e=>e,?_,?_,?_⟩
  ·intro blk hlt hn
   have hne:blk≠p.block:=fun e=>hn b 0 (e ▸ ho) hbk
   refine ⟨hoth blk hne,fun k s hk hm=>hn k s hk ?_⟩
   rw [keys_mem] at hm ⊢;exact hm
  ·intro blk k s hk hm dd tt ff hdd
   by_cases e:blk=p.block
   ·subst e;rw [hb] at hdd;cases hdd
   ·exact ⟨dd,(hoth blk e).trans hdd,rfl,fun _ _=>rfl⟩
  ·intro blk k s hk _ k' s' hk' _
   rw [hk] at hk';cases hk';exact Nat.le_refl _
 refine ⟨?_,hst⟩
 refine hc.replace hst (fun blk k s hk=>by have:=hc.own _ _ _ hk;simpa [a1] using this) (.inl rfl) (fun k hk=>.inr hk) (fun blk s k hk=>.inr ⟨blk,s,hk⟩) ?_ ?_
 ·intro blk k s hk hm
  have hne:blk≠p.block:=by
   intro e;rw [e,ho] at hk;cases hk
   exact hc.notmem hm
  exact ⟨hoth blk hne,rfl⟩
 ·exact ⟨p,pm,sa',hp,ho,by simp [hlt,a1],hpm,hs⟩
theorem run_next_any (ty:TypeId) (bi bm since:Nat) (seen:Array Nat) (es:Array MapEntry) (hi:w.heap[bi]?=some (.mapIter (some bm) since seen since)) (hb:w.heap[bm]?=some (.map es since)) (hold:∀ x∈es.toList,x.born<since) :
  ((leftOf es seen).size=0∧(Instr.next (.pointer (some ⟨bi,0,none⟩)) false ty).run P w=.ok (.tuple #[.bool false]) w) ∨
  ∃ e∈(leftOf es seen).toList,∃ w1:World,Alk w1 w∧(Instr.next (.pointer (some ⟨bi,0,none⟩)) false ty).run P w=.ok (.tuple #[.bool true,e.key,e.val]) { w1 with heap:=w1.heap.setIfInBounds bi (.mapIter (some bm) since (seen.push e.born) since) }:=by
 simp only [Instr.next,getObj,Sem.run_bind,Sem.run,hi,hb,Result.andThen,next_test_false seen es since since hold (Nat.le_refl _),Bool.false_eq_true,if_false]
 unfold leftOf
 have hmem:∀ x∈(Array.filter (fun e=>!seen.contains e.born) es).toList,x.born<since:=fun x hx=>hold x (by simp at hx ⊢;exact hx.1)
 generalize Array.filter (fun e=>!seen.contains e.born) es=L at hmem ⊢
 have e1:L.filter (fun x=>decide (x.born<since))=L:=Array.filter_eq_self.2 (fun x hx=>by simpa using hmem x (by simpa using hx))
 have e2:L.filter (fun x=>decide (x.born≥since))=#[]:=by
  rw [Array.filter_eq_empty_iff]
  intro x hx
  have:=hmem x (by simpa using hx)
  simp
  omega
 simp only [e1,e2,Array.append_empty]
 by_cases h0:L.size=0
 ·left
  have:L=#[]:=Array.eq_empty_of_size_eq_zero h0
  subst this
  refine ⟨rfl,?_⟩
  simp [choose,Sem.run,Question.forced]
 ·right
  have hne:L.isEmpty=false:=by simp [Array.isEmpty,h0]
  simp only [hne,Bool.false_eq_true,if_false,Array.empty_append,Array.size_map]
  have hch:∃ (j:Nat) (w1:World),j<L.size∧Alk w1 w∧(choose (Question.mapNext L.size)).run P w=.ok j w1:=by
   by_cases hf:L.size≤1
   ·exact ⟨0,w,by omega,⟨⟨rfl,rfl,rfl⟩,rfl,Nat.le_refl _⟩,by simp [choose,Sem.run,Question.forced,hf]⟩
   ·exact ⟨_,w.drew,Nat.mod_lt _ (by omega),⟨⟨rfl,rfl,rfl⟩,rfl,Nat.le_succ _⟩,by
     simp only [choose,Sem.run,Question.forced,decide_eq_true_eq,hf,if_false,Question.cut]
     rfl⟩
  obtain ⟨j,w1,hj,hal,hrun⟩:=hch
  refine ⟨L[j],by simp,w1,hal,?_⟩
  have hset:(setObj bi (.mapIter (some bm) since (seen.push L[j].born) since)).run P w1=.ok () { w1 with heap:=w1.heap.setIfInBounds bi (.mapIter (some bm) since (seen.push L[j].born) since) }:=by
   simp [setObj,Sem.run,hal.1.1,hi]
  simp only [hrun,Array.getElem?_map,Array.getElem?_eq_getElem hj,Option.map_some,Sem.run_bind,hset,Result.andThen]
  rfl
theorem run_entry_any (bi bm since c0:Nat) (seen:Array Nat) (es:Array MapEntry) (e:MapEntry) (hi:w.heap[bi]?=some (.mapIter (some bm) since seen c0)) (hb:w.heap[bm]?=some (.map es c0)) (hs:seen.back?=some e.born) (he:e∈es.toList) (hn:(es.toList.map (·.born)).Nodup) :
  (Instr.entry (.pointer (some ⟨bi,0,none⟩))).run P w=.ok (.tuple #[e.key,e.val]) w:=by
 have hf:es.find? (·.born == e.born)=some e:=by rw [← Array.find?_toList];exact find_born e es.toList hn he
 simp only [Instr.entry,getObj,Sem.run_bind,Sem.run,hi,hb,hs,Result.andThen,bne_self_eq_false,Bool.false_eq_true,if_false,hf]
 rfl
end Go.Abs
/-
 The abstract layer,part I1: own rows that grow.
-/
namespace Go.Abs
open Go
variable {P:Program} {n:Nat} {X:Nat→Prop} {g0:Gh} {r:Regs} {h:Heap} {a:Act} {w:World}
theorem split_uniq:∀ {l1 l2 m1 m2:Heap} {b:Nat} {o o':Ob},(keys (l1++(b,o)::l2)).Nodup→l1++(b,o)::l2=m1++(b,o')::m2→l1=m1∧l2=m2
 | [],l2,[],m2,b,o,o',hn,e=>by simp at e;exact ⟨rfl,e.2⟩
 | [],l2,y::m1,m2,b,o,o',hn,e=>by
   simp at e
   obtain ⟨rfl,rfl⟩:=e
   simp [keys] at hn
 | x::l1,l2,[],m2,b,o,o',hn,e=>by
   simp at e
   obtain ⟨rfl,rfl⟩:=e
   simp [keys] at hn
 | x::l1,l2,y::m1,m2,b,o,o',hn,e=>by
   simp at e
   obtain ⟨rfl,e⟩:=e
   have hn':(keys (l1++(b,o)::l2)).Nodup:=by
    have:keys (x::l1++(b,o)::l2)=x.1::keys (l1++(b,o)::l2):=rfl
    rw [this] at hn
    exact (List.nodup_cons.1 hn).2
   obtain ⟨rfl,rfl⟩:=split_uniq hn' e
   exact ⟨rfl,rfl⟩
theorem CW.newVecZ (hc:CW X g0 h w) {l:List AV} {us:List Value} {Z:Array Value} (t:TypeId) (hr:RepVs ⟨g0,live X h,w⟩ l us) (h1:∀ u∈us,u.oneCell'=true) :
  ∃ k g',g'.pl k=some ⟨w.heap.size,0,none⟩∧CW X g' ((k,.vec l)::h) (w.alloc (.cells (us.toArray++Z) t))∧Step X g0 h w g' ((k,.vec l)::h) (w.alloc (.cells (us.toArray++Z) t)):=by
 obtain ⟨k,f1,f2,st,mk⟩:=hc.newAt (.cells (us.toArray++Z) t) 0
 refine ⟨k,_,by simp [Gh.set],mk (.vec l) ?_,st (.vec l)⟩
 have hl:=hr.length
 refine ⟨⟨w.heap.size,0,none⟩,us.toArray++Z,t,by simp [Gh.set],rfl,by simp [Gh.set],heap_alloc_new w _,by simp;omega,?_⟩
 intro i x hx
 obtain ⟨u,hu,hrep⟩:=hr.get i x hx
 have hlt:i<us.length:=(List.getElem?_eq_some_iff.1 hu).1
 refine ⟨u,?_,h1 u (List.mem_of_getElem? hu),Rep.mono (Step.le (st (.vec l))) _ _ hrep⟩
 rw [Nat.zero_add,Array.getElem?_append_left (by simpa using hlt)]
 simpa using hu
theorem vec_extend {l1 l2:Heap} {b:Nat} {cs l:List AV} {us:List Value} {p:Addr} {N:Nat} (hc:CW X g0 (l1++(b,.vec cs)::l2) w) (hp:g0.pl b=some p) (hb:World.blockHas w p.block N) (hle:p.off+cs.length+l.length≤N)
  (hus:RepVs ⟨g0,live X (l1++(b,.vec cs)::l2),w⟩ l us) (ho:∀ u∈us,u.oneCell'=true) :
  (storeCells (⟨p.block,p.off+cs.length,none⟩:Addr) us).run P w=.ok () (w.setCells p.block (p.off+cs.length) us) ∧
  World.blockHas (w.setCells p.block (p.off+cs.length) us) p.block N ∧
   CW X g0 (l1++(b,.vec (cs++l))::l2) (w.setCells p.block (p.off+cs.length) us) ∧
   Step X g0 (l1++(b,.vec cs)::l2) w g0 (l1++(b,.vec (cs++l))::l2) (w.setCells p.block (p.off+cs.length) us):=by
 have hob:=hc.obj b (.vec cs) (by simp)
 obtain ⟨p',cc,t,h1,h2,h3,h4,h5,h6⟩:=hob
 simp only at h1 h3 h4
 rw [hp] at h1;cases h1
 obtain ⟨cc0,t0,f0,q1,q2⟩:=hb
 rw [h4] at q1;cases q1
 have hlen:=hus.length
 have hfit:p.off+cs.length+us.length≤cc.size:=by omega
 obtain ⟨cc',e1,e2,e3,e4,e5,e6,e7,e8,e9⟩:=setCells_heap p.block us (p.off+cs.length) w cc t (0,0) h4 hfit
 have hbk:b∈keys (l1++(b,.vec cs)::l2):=by rw [keys_mem];exact .inl rfl
 have hst:Step X g0 (l1++(b,.vec cs)::l2) w g0 (l1++(b,.vec (cs++l))::l2) (w.setCells p.block (p.off+cs.length) us):=by
  refine ⟨e7,e8,e9,by omega,fun _ _ e=>e,fun _ _ _ e _=>e,fun _ _ _ e _=>e,fun _ _ e=>e,?_,?_,?_⟩
  ·intro blk hb hn
   have hne:blk≠p.block:=fun e=>hn b 0 (e ▸ h3) hbk
   refine ⟨e5 blk hne,fun k s hk hm=>hn k s hk ?_⟩
   rw [keys_mem] at hm ⊢;exact hm
  ·intro blk k s hk hm dd tt ff hdd
   by_cases e:blk=p.block
   ·subst e
    rw [h3] at hk;cases hk
    rw [h4] at hdd;cases hdd
    exact ⟨cc',e1,e2,fun o ho=>by omega⟩
   ·exact ⟨dd,(e5 blk e).trans hdd,rfl,fun _ _=>rfl⟩
  ·intro blk k s hk _ k' s' hk' _
   rw [hk] at hk';cases hk';exact Nat.le_refl _
 refine ⟨?_,⟨cc',t,_,e1,by omega⟩,?_,hst⟩
 ·have hst:=run_storeCells_cells (P:=P) p.block (p.off+cs.length) us 0 w
   (fun j hj=>by
     simp only [Nat.add_zero]
     rw [cell_of_row w p.block _ cc t _ h4]
     have:p.off+cs.length+j<cc.size:=by omega
     simp [this])
   (fun j hj=>frozen_of_row w p.block _ cc t h4) ho
  simpa only [Nat.add_zero] using hst
 ·refine hc.replace hst (fun blk k s hk=>by have:=hc.own _ _ _ hk;omega) (.inl rfl) (fun k hk=>.inr hk) (fun blk s k hk=>.inr ⟨blk,s,hk⟩) ?_ ?_
  ·intro blk k s hk hm
   have hne:blk≠p.block:=by
    intro e;rw [e,h3] at hk;cases hk
    exact hc.notmem hm
   exact ⟨e5 blk hne,rfl⟩
  ·refine ⟨p,cc',t,hp,h2,h3,e1,by simp;omega,?_⟩
   intro i x hx
   by_cases hi:i<cs.length
   ·rw [List.getElem?_append_left hi] at hx
    obtain ⟨u,hu,ho',hr⟩:=h6 i x hx
    exact ⟨u,by rw [e3 _ (by omega)];exact hu,ho',Rep.mono (Step.le hst) _ _ hr⟩
   ·rw [List.getElem?_append_right (by omega)] at hx
    obtain ⟨u,hu,hr⟩:=hus.get _ _ hx
    have hlt:i - cs.length<us.length:=(List.getElem?_eq_some_iff.1 hu).1
    refine ⟨u,?_,ho u (List.mem_of_getElem? hu),Rep.mono (Step.le hst) _ _ hr⟩
    have:=e4 (i - cs.length) hlt
    rw [show p.off+cs.length+(i - cs.length)=p.off+i from by omega] at this
    rw [this,← hu,List.getElem?_eq_getElem hlt]
theorem own_append {l1 l2:Heap} {b k n:Nat} {cs:List AV} {ys:List (List AV)} {y:AV} {u uy:Value} {t tx ty e:TypeId} {K:AV→Heap→Prop} {next:Act→World→Prop} {o:Oper}
  {Q:Exit→Act→World→Prop} (hc:CW X g0 (l1++(b,.vec cs)::l2) w) (ht:P.underlying t=some (.slice e)) (htx:srcTy P tx=true) (hk0:1≤P.cellsOf e) (hbt:P.bytesOf e≤4096)
  {z:List AV} (hz:zeroCs P e=some z) (hzl:z.length=P.cellsOf e) (hk:k=P.cellsOf e) (hys:srcOf k y=some ys) (hcs:cs.length=n*k) (hmax:n+ys.length≤AMAX)
  (hx:Rep ⟨g0,live X (l1++(b,.vec cs)::l2),w⟩ (.osl b 0 n k) u) (hy:Rep ⟨g0,live X (l1++(b,.vec cs)::l2),w⟩ y uy)
  (hrun:∀ s w',(Builtin.append_ #[t,tx] ty #[u,uy]).run P w=.ok s w'→(execOp a.eval o).run P w=.ok (.value s) w')
  (hK:∀ b',K (.osl b' 0 (n+ys.length) k) (l1++(b',.vec (cs++ys.flatten))::l2)) (hn:NextL X g0 (l1++(b,.vec cs)::l2) w K o.dst a next):o.wp P a w next Q:=by
 obtain ⟨i,zv,hi,hzv,hzr,hz1⟩:=zeroCs_ok (c:=⟨g0,live X (l1++(b,.vec cs)::l2),w⟩) hz
 have hisz:i.size=P.cellsOf e:=by simp [Program.cellsOf,hi]
 have hib:i.bytes=P.bytesOf e:=by simp [Program.bytesOf,hi]
 have hzs:zv.cells.size=P.cellsOf e:=by have:=hzr.length;simp at this;omega
 obtain ⟨news,n1,n2,n3,n4,n5⟩:=src_ok (c:=⟨g0,live X (l1++(b,.vec cs)::l2),w⟩) hys hy
 have hnl:news.length=ys.length*k:=by rw [n3.length,flat_length n4]
 obtain ⟨q,cc,tt,h1,h2,h3,h4,h5,h6⟩:=hc.obj b (.vec cs) (by simp)
 simp only at h1 h3 h4
 rw [Rep] at hx
 obtain ⟨p,cap,o',hp,hs,rfl,x2,x3,x4,x5,x6,x7⟩:=hx
 simp only at hp x5
 rw [h1] at hp;cases hp
 by_cases hroom:n+ys.length≤cap
 ·by_cases hc0:cap=0
  ·have hn0:n=0:=by omega
   have hy0:ys=[]:=List.eq_nil_of_length_eq_zero (by omega)
   subst hc0 hn0 hy0
   have hcs0:cs=[]:=List.eq_nil_of_length_eq_zero (by simpa using hcs)
   subst hcs0
   have hn0:news=[]:=List.eq_nil_of_length_eq_zero (by simpa using hnl)
   subst hn0
   refine wp_value (hrun _ _ (run_append_room' (m:=0) (i:=i) ht htx hi (by simpa using n1) (by simpa [hisz,hk] using n2 w rfl) (by omega) (w':=w) (fun ad' _=>rfl) (fun e=>by cases e))) ?_
   refine hn _ _ g0 _ _ (hK b) (by simpa using hc) ?_ (by simpa using Step.refl _ _ _ _)
   rw [Rep]
   exact ⟨q,0,o',h1,h2,rfl,by simp,by simp,x4,x5,fun h=>absurd h (by omega),by unfold CAPM;omega⟩
  have hof:=x6 (by omega)
  subst hof
  have hle:q.off+cs.length+ys.flatten.length≤q.off+0+cap*k:=by
   rw [flat_length n4,hcs,Nat.add_assoc,← Nat.add_mul]
   have:=Nat.mul_le_mul_right k hroom
   omega
  obtain ⟨s1,s2,s3,s4⟩:=vec_extend (P:=P) hc h1 x5 hle n3 n5
  refine wp_value (hrun _ _ (run_append_room' (m:=ys.length) (i:=i) ht htx hi n1 (by rw [hisz,← hk];exact n2 w rfl) hroom (w':=w.setCells q.block (q.off+cs.length) news) ?_ (fun e=>by cases e))) ?_
  ·intro ad' he;cases he
   have hadd:(⟨q.block,q.off+0,none⟩:Addr).add (n*i.size)=⟨q.block,q.off+cs.length,none⟩:=by
    rw [hcs,hisz,← hk]
    unfold Addr.add
    split
    ·rename_i h0;rw [h0]
    ·simp
   rw [hadd];exact s1
  ·refine hn _ _ g0 _ _ (hK b) s3 ?_ s4
   rw [Rep]
   exact ⟨q,cap,0,h1,h2,rfl,hroom,by unfold LMAX;unfold AMAX at hmax;omega,x4,s2,fun _=>rfl,x7⟩
 ·have hg:cap<n+ys.length:=by omega
  -- the old cells
  have hold:∃ olds:List Value,olds.length=cs.length∧(∀ (j:Nat) v,olds[j]?=some v→cc[q.off+j]?=some v)∧RepVs ⟨g0,live X (l1++(b,.vec cs)::l2),w⟩ cs olds∧∀ v∈olds,v.oneCell'=true:=by
   have key:∀ (l:List AV) (o:Nat),(∀ i x,l[i]?=some x→∃ u,cc[q.off+(o+i)]?=some u∧u.oneCell'=true∧Rep ⟨g0,live X (l1++(b,.vec cs)::l2),w⟩ x u) →
     ∃ olds:List Value,olds.length=l.length∧(∀ (j:Nat) v,olds[j]?=some v→cc[q.off+(o+j)]?=some v)∧RepVs ⟨g0,live X (l1++(b,.vec cs)::l2),w⟩ l olds∧∀ v∈olds,v.oneCell'=true:=by
    intro l
    induction l with
    | nil=>intro o _;exact ⟨[],rfl,by simp,by simp [RepVs],by simp⟩
    | cons x l ih=>
      intro o hh
      obtain ⟨u,a1,a2,a3⟩:=hh 0 x (by simp)
      obtain ⟨olds,b1,b2,b3,b4⟩:=ih (o+1) (fun i y hy=>by
       obtain ⟨v,c1,c2⟩:=hh (i+1) y (by simpa using hy)
       exact ⟨v,by rw [show o+1+i=o+(i+1) from by omega];exact c1,c2⟩)
      refine ⟨u::olds,by simp [b1],?_,by simp only [RepVs];exact ⟨_,_,rfl,a3,b3⟩,?_⟩
      ·intro j v hj
       cases j with
       | zero=>simp at hj;subst hj;simpa using a1
       | succ j=>
         have:=b2 j v (by simpa using hj)
         rw [show o+(j+1)=o+1+j from by omega];exact this
      ·intro v hv
       rcases List.mem_cons.1 hv with rfl|hv
       ·exact a2
       ·exact b4 v hv
   have:=key cs 0 (fun i x hx=>by simpa using h6 i x hx)
   simpa using this
  obtain ⟨olds,o1,o2,o3,o4⟩:=hold
  have hrn:=run_append_grow' (P:=P) (w:=w) (ty:=ty) (i:=i) (z:=zv) (m:=ys.length) (olds:=olds) ht htx hi hzv n1 (by rw [hisz,← hk];exact n2 w.drew rfl) (base:=some ⟨q.block,q.off+o',none⟩) (sLen:=n)
   (by
     rw [hisz,← hk]
     refine run_firstCells_some w.drew k n ⟨q.block,q.off+o',none⟩ n cap olds (by rw [o1,hcs]) (fun j v hj=>?_)
     have hjl:=(List.getElem?_eq_some_iff.1 hj).1
     rw [o1,hcs] at hjl
     have hn1:0<n:=by
      rcases Nat.eq_zero_or_pos n with h|h
      ·subst h;simp at hjl
      ·exact h
     have hof:=x6 (by omega)
     subst hof
     have hadd:(⟨q.block,q.off+0,none⟩:Addr).add j=⟨q.block,q.off+j,none⟩:=by
      unfold Addr.add
      split
      ·rename_i h0;rw [h0]
      ·simp
     rw [hadd]
     have:w.drew.heap[q.block]?=some (.cells cc tt (0,0)):=h4
     rw [cell_of_row w.drew q.block _ cc tt _ this]
     exact o2 j v hj) hg hmax (by omega)
  refine wp_value (hrun _ _ hrn) ?_
  obtain ⟨c1,s1⟩:=hc.drew
  have hcapw:=grownCap_ge w (n+ys.length) cap e
  obtain ⟨b',g',k1,k2,k3⟩:=c1.newVecZ (l:=cs++ys.flatten) (us:=olds++news) (Z:=Builtin.zeroCells zv.cells (grownCap w (n+ys.length) cap e - (n+ys.length))) e
   (RepVs.mono (Step.le s1) _ _ (RepVs.append o3 n3)) (by intro v hv;rcases List.mem_append.1 hv with h|h;exact o4 v h;exact n5 v h)
  have hst:=s1.trans hc.own k3
  have hsub:∀ k' o',(k',o')∈l1++(b',Ob.vec (cs++ys.flatten))::l2→(k',o')∈(b',Ob.vec (cs++ys.flatten))::(l1++(b,Ob.vec cs)::l2):=by
   intro k' o' hm
   simp only [List.mem_append,List.mem_cons] at hm ⊢
   rcases hm with h|h|h
   ·exact .inr (.inl h)
   ·exact .inl h
   ·exact .inr (.inr (.inr h))
  have hnd:(keys (l1++(b',Ob.vec (cs++ys.flatten))::l2)).Nodup:=by
   have hnd:=k2.nodup
   rw [keys_app]
   simp only [keys,List.map_cons,List.map_append,List.nodup_cons,List.nodup_append,List.mem_append,List.mem_cons,not_or] at hnd ⊢
   obtain ⟨⟨a1,a2,a3⟩,b1,⟨b2,b3⟩,b4⟩:=hnd
   refine ⟨b1,⟨a3,b3⟩,fun x hx y hy=>?_⟩
   rcases hy with rfl|hy
   ·rintro rfl;exact a1 hx
   ·exact b4 x hx y (.inr hy)
  obtain ⟨d1,d2⟩:=k2.sub hsub hnd
  refine hn _ _ g' _ _ (hK b') d1 ?_ (hst.trans hc.own d2)
  rw [Rep]
  have hcapm:=grownCap_le_maxLen w (n+ys.length) cap e (by unfold maxLen;unfold AMAX at hmax;omega)
  refine ⟨_,_,0,k1,rfl,rfl,hcapw,by unfold LMAX;unfold AMAX at hmax;omega,x4,?_,fun _=>rfl,by unfold CAPM;unfold maxLen at hcapm;omega⟩
  refine ⟨_,_,_,heap_alloc_new w.drew _,?_⟩
  simp only [Array.size_append,List.size_toArray,size_zeroCells,hzs,List.length_append,hnl,o1,hcs,← hk]
  rw [← Nat.add_mul,← Nat.add_mul]
  have:n+ys.length+(grownCap w (n+ys.length) cap e - (n+ys.length))=grownCap w (n+ys.length) cap e:=by omega
  rw [this];omega
theorem vec_write {l1 l2:Heap} {b o:Nat} {cs l:List AV} {us:List Value} {p:Addr} {N:Nat} (hc:CW X g0 (l1++(b,.vec cs)::l2) w) (hp:g0.pl b=some p) (hb:World.blockHas w p.block N) (ho0:o≤cs.length) (hle:p.off+o+l.length≤N)
  (hus:RepVs ⟨g0,live X (l1++(b,.vec cs)::l2),w⟩ l us) (ho:∀ u∈us,u.oneCell'=true) :
  (storeCells (⟨p.block,p.off+o,none⟩:Addr) us).run P w=.ok () (w.setCells p.block (p.off+o) us) ∧
  (∀ M,World.blockHas w p.block M→World.blockHas (w.setCells p.block (p.off+o) us) p.block M) ∧
    CW X g0 (l1++(b,.vec (setC cs o l))::l2) (w.setCells p.block (p.off+o) us) ∧
    Step X g0 (l1++(b,.vec cs)::l2) w g0 (l1++(b,.vec (setC cs o l))::l2) (w.setCells p.block (p.off+o) us):=by
 have hob:=hc.obj b (.vec cs) (by simp)
 obtain ⟨p',cc,t,h1,h2,h3,h4,h5,h6⟩:=hob
 simp only at h1 h3 h4
 rw [hp] at h1;cases h1
 obtain ⟨cc0,t0,f0,q1,q2⟩:=hb
 rw [h4] at q1;cases q1
 have hlen:=hus.length
 have hfit:p.off+o+us.length≤cc.size:=by omega
 obtain ⟨cc',e1,e2,e3,e4,e5,e6,e7,e8,e9⟩:=setCells_heap p.block us (p.off+o) w cc t (0,0) h4 hfit
 have hbk:b∈keys (l1++(b,.vec cs)::l2):=by rw [keys_mem];exact .inl rfl
 have hst:Step X g0 (l1++(b,.vec cs)::l2) w g0 (l1++(b,.vec (setC cs o l))::l2) (w.setCells p.block (p.off+o) us):=by
  refine ⟨e7,e8,e9,by omega,fun _ _ e=>e,fun _ _ _ e _=>e,fun _ _ _ e _=>e,fun _ _ e=>e,?_,?_,?_⟩
  ·intro blk hb hn
   have hne:blk≠p.block:=fun e=>hn b 0 (e ▸ h3) hbk
   refine ⟨e5 blk hne,fun k s hk hm=>hn k s hk ?_⟩
   rw [keys_mem] at hm ⊢;exact hm
  ·intro blk k s hk hm dd tt ff hdd
   by_cases e:blk=p.block
   ·subst e
    rw [h3] at hk;cases hk
    rw [h4] at hdd;cases hdd
    exact ⟨cc',e1,e2,fun o ho=>by omega⟩
   ·exact ⟨dd,(e5 blk e).trans hdd,rfl,fun _ _=>rfl⟩
  ·intro blk k s hk _ k' s' hk' _
   rw [hk] at hk';cases hk';exact Nat.le_refl _
 refine ⟨?_,fun M hM=>?_,?_,hst⟩
 ·have hst:=run_storeCells_cells (P:=P) p.block (p.off+o) us 0 w
   (fun j hj=>by
     simp only [Nat.add_zero]
     rw [cell_of_row w p.block _ cc t _ h4]
     have:p.off+o+j<cc.size:=by omega
     simp [this])
   (fun j hj=>frozen_of_row w p.block _ cc t h4) ho
  simpa only [Nat.add_zero] using hst
 ·obtain ⟨cc0,t0,f0,q1,q3⟩:=hM
  rw [h4] at q1;cases q1
  exact ⟨cc',t,_,e1,by omega⟩
 ·have hsl:(setC cs o l).length=max cs.length (o+l.length):=by
   unfold setC
   simp only [List.length_append,List.length_take,List.length_drop]
   omega
  refine hc.replace hst (fun blk k s hk=>by have:=hc.own _ _ _ hk;omega) (.inl rfl) (fun k hk=>.inr hk) (fun blk s k hk=>.inr ⟨blk,s,hk⟩) ?_ ?_
  ·intro blk k s hk hm
   have hne:blk≠p.block:=by
    intro e;rw [e,h3] at hk;cases hk
    exact hc.notmem hm
   exact ⟨e5 blk hne,rfl⟩
  ·refine ⟨p,cc',t,hp,h2,h3,e1,by rw [hsl];omega,?_⟩
   intro i x hx
   unfold setC at hx
   by_cases hi:i<o
   ·rw [List.getElem?_append_left (by simp;omega),List.getElem?_append_left (by simp;omega),List.getElem?_take_of_lt hi] at hx
    obtain ⟨u,hu,ho',hr⟩:=h6 i x hx
    exact ⟨u,by rw [e3 _ (.inl (by omega))];exact hu,ho',Rep.mono (Step.le hst) _ _ hr⟩
   ·by_cases hi2:i<o+l.length
    ·rw [List.getElem?_append_left (by simp;omega),List.getElem?_append_right (by simp;omega)] at hx
     have hto:(cs.take o).length=o:=by simp;omega
     rw [hto] at hx
     obtain ⟨u,hu,hr⟩:=hus.get _ _ hx
     have hlt:i - o<us.length:=(List.getElem?_eq_some_iff.1 hu).1
     refine ⟨u,?_,ho u (List.mem_of_getElem? hu),Rep.mono (Step.le hst) _ _ hr⟩
     have:=e4 (i - o) hlt
     rw [show p.off+o+(i - o)=p.off+i from by omega] at this
     rw [this,← hu,List.getElem?_eq_getElem hlt]
    ·have hto:(cs.take o++l).length=o+l.length:=by simp;omega
     rw [List.getElem?_append_right (by omega),hto,List.getElem?_drop,show o+l.length+(i - (o+l.length))=i from by omega] at hx
     obtain ⟨u,hu,ho',hr⟩:=h6 i x hx
     exact ⟨u,by rw [e3 _ (.inr (by omega))];exact hu,ho',Rep.mono (Step.le hst) _ _ hr⟩
theorem vec_olds {c:Cx} {cc:Array Value} {q:Addr} {cs:List AV} (h6:∀ i x,cs[i]?=some x→∃ u,cc[q.off+i]?=some u∧u.oneCell'=true∧Rep c x u) :
  ∀ (l:List AV) (o:Nat),(∀ i x,l[i]?=some x→cs[o+i]?=some x) →
   ∃ olds:List Value,olds.length=l.length∧(∀ (j:Nat) v,olds[j]?=some v→cc[q.off+(o+j)]?=some v)∧RepVs c l olds∧∀ v∈olds,v.oneCell'=true
 | [],o,_=>⟨[],rfl,by simp,by simp [RepVs],by simp⟩
 | x::l,o,hh=>by
   obtain ⟨u,a1,a2,a3⟩:=h6 o x (by simpa using hh 0 x (by simp))
   obtain ⟨olds,b1,b2,b3,b4⟩:=vec_olds h6 l (o+1) (fun i y hy=>by
    rw [show o+1+i=o+(i+1) from by omega]
    exact hh (i+1) y (by simpa using hy))
   refine ⟨u::olds,by simp [b1],?_,by simp only [RepVs];exact ⟨_,_,rfl,a3,b3⟩,?_⟩
   ·intro j v hj
    cases j with
    | zero=>simp at hj;subst hj;simpa using a1
    | succ j=>
      have:=b2 j v (by simpa using hj)
      rw [show o+(j+1)=o+1+j from by omega];exact this
   ·intro v hv
    rcases List.mem_cons.1 hv with rfl|hv
    ·exact a2
    ·exact b4 v hv
theorem oslc_room {l1 l2:Heap} {b k n off cap:Nat} {cs:List AV} {ys:List (List AV)} {u uy:Value} {t tx ty e:TypeId} {K:AV→Heap→Prop} {next:Act→World→Prop} {o:Oper}
  {Q:Exit→Act→World→Prop} (hc:CW X g0 (l1++(b,.vec cs)::l2) w) (ht:P.underlying t=some (.slice e)) (htx:srcTy P tx=true) (hk0:1≤P.cellsOf e)
  (hk:k=P.cellsOf e) (hcs:cs.length=off+n*k) (hmax:n+ys.length≤AMAX) (hroom:n+ys.length≤cap)
  (hsrc:∃ news:List Value,(∀ w',(Builtin.lenOf uy).run P w'=.ok ys.length w')∧(∀ w':World,w'.heap=w.heap→(Builtin.firstCells k ys.length uy).run P w'=.ok news.toArray w') ∧
    RepVs ⟨g0,live X (l1++(b,.vec cs)::l2),w⟩ ys.flatten news∧(∀ x∈ys,x.length=k)∧(∀ v∈news,v.oneCell'=true))
  (hx:Rep ⟨g0,live X (l1++(b,.vec cs)::l2),w⟩ (.oslc b off n cap k) u)
  (hrun:∀ s w',(Builtin.append_ #[t,tx] ty #[u,uy]).run P w=.ok s w'→(execOp a.eval o).run P w=.ok (.value s) w')
  (hK:K (.oslc b off (n+ys.length) cap k) (l1++(b,.vec (cs++ys.flatten))::l2)) (hn:NextL X g0 (l1++(b,.vec cs)::l2) w K o.dst a next):o.wp P a w next Q:=by
 obtain ⟨i,hi⟩:∃ i,P.info? e=some i:=by
  cases hi:P.info? e with
  | none=>simp [Program.cellsOf,hi] at hk0
  | some i=>exact ⟨i,rfl⟩
 have hisz:i.size=P.cellsOf e:=by simp [Program.cellsOf,hi]
 obtain ⟨news,n1,n2,n3,n4,n5⟩:=hsrc
 obtain ⟨q,cc,tt,h1,h2,h3,h4,h5,h6⟩:=hc.obj b (.vec cs) (by simp)
 simp only at h1 h3 h4
 rw [Rep] at hx
 obtain ⟨p,hp,hs,rfl,x2,x3,x4,x5,x6⟩:=hx
 simp only at hp x5
 rw [h1] at hp;cases hp
 have hle:q.off+cs.length+ys.flatten.length≤q.off+off+cap*k:=by
  rw [flat_length n4,hcs]
  have:=Nat.mul_le_mul_right k hroom
  rw [Nat.add_mul] at this
  omega
 obtain ⟨s1,s2,s3,s4⟩:=vec_extend (P:=P) hc h1 x5 hle n3 n5
 refine wp_value (hrun _ _ (run_append_room' (m:=ys.length) (i:=i) ht htx hi n1 (by rw [hisz,← hk];exact n2 w rfl) hroom (w':=w.setCells q.block (q.off+cs.length) news) ?_ (fun e=>by cases e))) ?_
 ·intro ad' he;cases he
  have hadd:(⟨q.block,q.off+off,none⟩:Addr).add (n*i.size)=⟨q.block,q.off+cs.length,none⟩:=by
   rw [hcs,hisz,← hk]
   unfold Addr.add
   split
   ·rename_i h0;rw [h0];simp
   ·simp [Nat.add_assoc]
  rw [hadd];exact s1
 ·refine hn _ _ g0 _ _ hK s3 ?_ s4
  rw [Rep]
  exact ⟨q,h1,h2,rfl,hroom,by unfold LMAX;unfold AMAX at hmax;omega,x4,s2,x6⟩
theorem oslc_grow {b k n off cap:Nat} {cs:List AV} {ys:List (List AV)} {u uy:Value} {t tx ty e:TypeId} {K:AV→Heap→Prop} {next:Act→World→Prop} {o:Oper}
  {Q:Exit→Act→World→Prop} (hc:CW X g0 h w) (hin:(b,Ob.vec cs)∈h) (ht:P.underlying t=some (.slice e)) (htx:srcTy P tx=true) (hk0:1≤P.cellsOf e) (hbt:P.bytesOf e≤4096)
  {z:List AV} (hz:zeroCs P e=some z) (hzl:z.length=P.cellsOf e) (hk:k=P.cellsOf e) (hcs:n=0∨off+n*k≤cs.length) (hmax:n+ys.length≤AMAX) (hg:cap<n+ys.length)
  (hsrc:∃ news:List Value,(∀ w',(Builtin.lenOf uy).run P w'=.ok ys.length w')∧(∀ w':World,w'.heap=w.heap→(Builtin.firstCells k ys.length uy).run P w'=.ok news.toArray w') ∧
    RepVs ⟨g0,live X h,w⟩ ys.flatten news∧(∀ x∈ys,x.length=k)∧(∀ v∈news,v.oneCell'=true))
  (hx:Rep ⟨g0,live X h,w⟩ (.oslc b off n cap k) u)
  (hrun:∀ s w',(Builtin.append_ #[t,tx] ty #[u,uy]).run P w=.ok s w'→(execOp a.eval o).run P w=.ok (.value s) w')
  (hK:∀ q,K (.osl q 0 (n+ys.length) k) ((q,.vec ((cs.drop off).take (n*k)++ys.flatten))::h)) (hn:NextL X g0 h w K o.dst a next):o.wp P a w next Q:=by
 obtain ⟨i,zv,hi,hzv,hzr,hz1⟩:=zeroCs_ok (c:=⟨g0,live X h,w⟩) hz
 have hisz:i.size=P.cellsOf e:=by simp [Program.cellsOf,hi]
 have hib:i.bytes=P.bytesOf e:=by simp [Program.bytesOf,hi]
 have hzs:zv.cells.size=P.cellsOf e:=by have:=hzr.length;simp at this;omega
 obtain ⟨news,n1,n2,n3,n4,n5⟩:=hsrc
 have hnl:news.length=ys.length*k:=by rw [n3.length,flat_length n4]
 obtain ⟨q,cc,tt,h1,h2,h3,h4,h5,h6⟩:=hc.obj b (.vec cs) hin
 simp only at h1 h3 h4
 rw [Rep] at hx
 obtain ⟨p,hp,hs,rfl,x2,x3,x4,x5,x6⟩:=hx
 simp only at hp x5
 rw [h1] at hp;cases hp
 have hll:((cs.drop off).take (n*k)).length=n*k:=by
  rcases hcs with h|h
  ·subst h;simp
  ·simp;omega
 obtain ⟨olds,o1,o2,o3,o4⟩:=vec_olds (q:=q) h6 ((cs.drop off).take (n*k)) off (fun j x hj=>by
  have hjl:=(List.getElem?_eq_some_iff.1 hj).1
  rw [hll] at hjl
  rw [List.getElem?_take_of_lt hjl,List.getElem?_drop] at hj
  exact hj)
 have hrn:=run_append_grow' (P:=P) (w:=w) (ty:=ty) (i:=i) (z:=zv) (m:=ys.length) (olds:=olds) ht htx hi hzv n1 (by rw [hisz,← hk];exact n2 w.drew rfl) (base:=some ⟨q.block,q.off+off,none⟩) (sLen:=n)
  (by
    rw [hisz,← hk]
    refine run_firstCells_some w.drew k n ⟨q.block,q.off+off,none⟩ n cap olds (by rw [o1,hll]) (fun j v hj=>?_)
    have hadd:(⟨q.block,q.off+off,none⟩:Addr).add j=⟨q.block,q.off+(off+j),none⟩:=by
     unfold Addr.add
     split
     ·rename_i h0;rw [h0];simp
     ·simp [Nat.add_assoc]
    rw [hadd]
    have:w.drew.heap[q.block]?=some (.cells cc tt (0,0)):=h4
    rw [cell_of_row w.drew q.block _ cc tt _ this]
    exact o2 j v hj) hg hmax (by omega)
 refine wp_value (hrun _ _ hrn) ?_
 obtain ⟨c1,s1⟩:=hc.drew
 have hcapw:=grownCap_ge w (n+ys.length) cap e
 have hcapm:=grownCap_le_maxLen w (n+ys.length) cap e (by unfold maxLen;unfold AMAX at hmax;omega)
 obtain ⟨b',g',k1,k2,k3⟩:=c1.newVecZ (l:=(cs.drop off).take (n*k)++ys.flatten) (us:=olds++news) (Z:=Builtin.zeroCells zv.cells (grownCap w (n+ys.length) cap e - (n+ys.length))) e
  (RepVs.mono (Step.le s1) _ _ (RepVs.append o3 n3)) (by intro v hv;rcases List.mem_append.1 hv with h|h;exact o4 v h;exact n5 v h)
 refine hn _ _ g' _ _ (hK b') k2 ?_ (s1.trans hc.own k3)
 rw [Rep]
 refine ⟨_,_,0,k1,rfl,rfl,hcapw,by unfold LMAX;unfold AMAX at hmax;omega,x4,?_,fun _=>rfl,by unfold CAPM;unfold maxLen at hcapm;omega⟩
 refine ⟨_,_,_,heap_alloc_new w.drew _,?_⟩
 simp only [Array.size_append,List.size_toArray,size_zeroCells,hzs,List.length_append,hnl,o1,hll,← hk]
 rw [← Nat.add_mul,← Nat.add_mul]
 have:n+ys.length+(grownCap w (n+ys.length) cap e - (n+ys.length))=grownCap w (n+ys.length) cap e:=by omega
 rw [this];omega
theorem oslc_zeros {b k n off cap m:Nat} {kq:IntKind} {cs:List AV} {u:Value} {t tx ty e:TypeId} {kn:IntKind} {K:AV→Heap→Prop} {next:Act→World→Prop} {o:Oper}
  {Q:Exit→Act→World→Prop} (hc:CW X g0 h w) (hin:(b,Ob.vec cs)∈h) (ht:P.underlying t=some (.slice e)) (htx:P.underlying tx=some (.int kn)) (hk0:1≤P.cellsOf e) (hbt:P.bytesOf e≤4096)
  {z:List AV} (hz:zeroCs P e=some z) (hzl:z.length=P.cellsOf e) (hk:k=P.cellsOf e) (hcs:off+n*k≤cs.length) (hm:0<m) (hmax:n+m≤4294967296) (hg:cap<n+m)
  (hx:Rep ⟨g0,live X h,w⟩ (.oslc b off n cap k) u)
  (hrun:∀ s w',(Builtin.append_ #[t,tx] ty #[u,.int kq m]).run P w=.ok s w'→(execOp a.eval o).run P w=.ok (.value s) w')
  (hK:∀ q,K (.osl q 0 (n+m) k) ((q,.vec ((cs.drop off).take (n*k)++repC m z))::h)) (hn:NextL X g0 h w K o.dst a next):o.wp P a w next Q:=by
 obtain ⟨i,zv,hi,hzv,hzr,hz1⟩:=zeroCs_ok (c:=⟨g0,live X h,w⟩) hz
 have hisz:i.size=P.cellsOf e:=by simp [Program.cellsOf,hi]
 have hib:i.bytes=P.bytesOf e:=by simp [Program.bytesOf,hi]
 have hzs:zv.cells.size=P.cellsOf e:=by have:=hzr.length;simp at this;omega
 obtain ⟨q,cc,tt,h1,h2,h3,h4,h5,h6⟩:=hc.obj b (.vec cs) hin
 simp only at h1 h3 h4
 rw [Rep] at hx
 obtain ⟨p,hp,hs,rfl,x2,x3,x4,x5,x6⟩:=hx
 simp only at hp x5
 rw [h1] at hp;cases hp
 have hll:((cs.drop off).take (n*k)).length=n*k:=by simp;omega
 obtain ⟨olds,o1,o2,o3,o4⟩:=vec_olds (q:=q) h6 ((cs.drop off).take (n*k)) off (fun j x hj=>by
  have hjl:=(List.getElem?_eq_some_iff.1 hj).1
  rw [hll] at hjl
  rw [List.getElem?_take_of_lt hjl,List.getElem?_drop] at hj
  exact hj)
 have hfit:Builtin.nextslicecap (n+m) cap*i.bytes≤281474976710656:=by
  have h1:Builtin.nextslicecap (n+m) cap≤2*(n+m):=nextslicecap_le hg
  exact Nat.le_trans (Nat.mul_le_mul h1 (by omega:i.bytes≤4096)) (by omega)
 have h48:m*i.bytes≤281474976710656:=Nat.le_trans (Nat.mul_le_mul (by omega:m≤4294967296) (by omega:i.bytes≤4096)) (by omega)
 have hrn:=Go.Lib.run_append_grow_zeros (P:=P) w t tx ty e i zv kq kn ht htx hi hzv (some ⟨q.block,q.off+off,none⟩) n cap olds
  (by
    rw [hisz,← hk]
    refine run_firstCells_some w.drew k n ⟨q.block,q.off+off,none⟩ n cap olds (by rw [o1,hll]) (fun j v hj=>?_)
    have hadd:(⟨q.block,q.off+off,none⟩:Addr).add j=⟨q.block,q.off+(off+j),none⟩:=by
     unfold Addr.add
     split
     ·rename_i h0;rw [h0];simp
     ·simp [Nat.add_assoc]
    rw [hadd]
    have:w.drew.heap[q.block]?=some (.cells cc tt (0,0)):=h4
    rw [cell_of_row w.drew q.block _ cc tt _ this]
    exact o2 j v hj) m hm (by omega) hg (by omega) h48 hfit
 refine wp_value (hrun _ _ hrn) ?_
 obtain ⟨c1,s1⟩:=hc.drew
 have hcapw:=grownCap_ge w (n+m) cap e
 have hcapm:=grownCap_le_maxLen w (n+m) cap e (by unfold maxLen;omega)
 have hzc:(Builtin.zeroCells zv.cells m).toList=(List.replicate m zv.cells.toList).flatten:=made_eq zv.cells (by omega) m
 have hrz:=RepVs.repl hzr m
 obtain ⟨b',g',k1,k2,k3⟩:=c1.newVecZ (l:=(cs.drop off).take (n*k)++repC m z) (us:=olds++(List.replicate m zv.cells.toList).flatten) (Z:=Builtin.zeroCells zv.cells (grownCap w (n+m) cap e - (n+m))) e
  (RepVs.mono (Step.le s1) _ _ (RepVs.append o3 hrz)) (by
    intro v hv
    rcases List.mem_append.1 hv with h|h
    ·exact o4 v h
    ·simp only [List.mem_flatten,List.mem_replicate] at h
     obtain ⟨l,⟨_,rfl⟩,hu⟩:=h
     exact hz1 v (by simpa using hu))
 have e1:olds.toArray++Builtin.zeroCells zv.cells m=(olds++(List.replicate m zv.cells.toList).flatten).toArray:=by
  rw [← Array.toList_inj];simp [hzc]
 rw [e1]
 refine hn _ _ g' _ _ (hK b') k2 ?_ (s1.trans hc.own k3)
 rw [Rep]
 refine ⟨_,_,0,k1,rfl,rfl,hcapw,by unfold LMAX;omega,x4,?_,fun _=>rfl,by unfold CAPM;unfold maxLen at hcapm;omega⟩
 refine ⟨_,_,_,heap_alloc_new w.drew _,?_⟩
 have hul:(List.replicate m zv.cells.toList).flatten.length=m*k:=by simp [hzs,hk]
 simp only [Array.size_append,List.size_toArray,size_zeroCells,hzs,List.length_append,hul,o1,hll,← hk]
 rw [← Nat.add_mul,← Nat.add_mul]
 have:n+m+(grownCap w (n+m) cap e - (n+m))=grownCap w (n+m) cap e:=by omega
 rw [this];omega
end Go.Abs
/-
 The abstract layer,part I: all loud operations.
-/
namespace Go.Abs
open Go
variable {P:Program} {n:Nat} {X:Nat→Prop} {g0:Gh} {r:Regs} {h:Heap} {a:Act} {w:World}
theorem append_arrays {cl:Call} {t tx:TypeId} {u uy:Value} {o:Oper} {b:Array Bool} (ho:o.op=.call cl) (hcal:cl.callee=.builtin .append) (hty:cl.argTypes.toList=[t,tx])
  (hargs:cl.args.toList.map a.eval=[u,uy]):∀ s w',(Builtin.append_ #[t,tx] o.type #[u,uy]).run P w=.ok s w'→(execOp a.eval o).run P w=.ok (.value s) w':=by
 intro s w' hh
 have h1:cl.args.map a.eval=#[u,uy]:=by rw [← Array.toList_inj];simpa using hargs
 have h2:cl.argTypes=#[t,tx]:=by rw [← Array.toList_inj];simpa using hty
 simp [execOp,ho,resolve,hcal,invoke,builtin,h1,h2,hh]
theorem map_store {l1 l2:Heap} {b:Nat} {es es':List (AV × AV)} {p:Addr} {ents ents':Array MapEntry} {cl cl':Nat} (hc:CW X g0 (l1++(b,.map es)::l2) w) (hp:g0.pl b=some p) (ho:g0.ow p.block=some (b,0))
  (hb:w.heap[p.block]?=some (.map ents cl)) (he:EntsRep ⟨g0,live X (l1++(b,.map es)::l2),w⟩ es' ents'.toList) (h1:∀ x∈ents'.toList,x.born<cl') (h2:(ents'.toList.map (·.born)).Nodup) :
  (setObj p.block (.map ents' cl')).run P w=.ok () { w with heap:=w.heap.setIfInBounds p.block (.map ents' cl') } ∧
  CW X g0 (l1++(b,.map es')::l2) { w with heap:=w.heap.setIfInBounds p.block (.map ents' cl') } ∧
  Step X g0 (l1++(b,.map es)::l2) w g0 (l1++(b,.map es')::l2) { w with heap:=w.heap.setIfInBounds p.block (.map ents' cl') }:=by
 have hlt:p.block<w.heap.size:=(Array.getElem?_eq_some_iff.1 hb).1
 have hoth:∀ blk,blk≠p.block→(w.heap.setIfInBounds p.block (.map ents' cl'))[blk]?=w.heap[blk]?:=fun blk hne=>Array.getElem?_setIfInBounds_ne (Ne.symm hne)
 have hbk:b∈keys (l1++(b,.map es)::l2):=by rw [keys_mem];exact .inl rfl
 have hst:Step X g0 (l1++(b,.map es)::l2) w g0 (l1++(b,.map es')::l2) { w with heap:=w.heap.setIfInBounds p.block (.map ents' cl') }:=by
  refine ⟨rfl,⟨rfl,Nat.le_refl _⟩,rfl,by simp,fun _ _ e=>e,fun _ _ _ e _=>e,fun _ _ _ e _=>e,fun _ _ e=>e,?_,?_,?_⟩
  ·intro blk hlt hn
   have hne:blk≠p.block:=fun e=>hn b 0 (e ▸ ho) hbk
   refine ⟨hoth blk hne,fun k s hk hm=>hn k s hk ?_⟩
   rw [keys_mem] at hm ⊢;exact hm
  ·intro blk k s hk hm dd tt ff hdd
   by_cases e:blk=p.block
   ·subst e;rw [hb] at hdd;cases hdd
   ·exact ⟨dd,(hoth blk e).trans hdd,rfl,fun _ _=>rfl⟩
  ·intro blk k s hk _ k' s' hk' _
   rw [hk] at hk';cases hk';exact Nat.le_refl _
 refine ⟨by simp [setObj,Sem.run,hb],?_,hst⟩
 refine hc.replace hst (fun blk k s hk=>by have:=hc.own _ _ _ hk;simpa using this) (.inl rfl) (fun k hk=>.inr hk) (fun blk s k hk=>.inr ⟨blk,s,hk⟩) ?_ ?_
 ·intro blk k s hk hm
  have hne:blk≠p.block:=by
   intro e;rw [e,ho] at hk;cases hk
   exact hc.notmem hm
  exact ⟨hoth blk hne,rfl⟩
 ·exact ⟨p,cl',ents',hp,ho,by simp [hlt],EntsRep.mono (Step.le hst) he,h1,h2⟩
theorem EntsRep.append {c:Cx}:∀ {es:List (AV × AV)} {ents:List MapEntry} {k v:AV} {e:MapEntry},EntsRep c es ents→Rep c k e.key→Rep c v e.val→EntsRep c (es++[(k,v)]) (ents++[e])
 | [],ents,k,v,e,h,h1,h2=>by
   simp [EntsRep] at h
   subst h
   exact ⟨e,[],rfl,h1,h2,rfl⟩
 | x::es,ents,k,v,e,h,h1,h2=>by
   obtain ⟨e',r,rfl,a1,a2,a3⟩:=h
   exact ⟨e',r++[e],rfl,a1,a2,EntsRep.append a3 h1 h2⟩
theorem modify_born (l:List MapEntry) (j:Nat) (u v:Value):(l.modify j fun e=>{ e with key:=u,val:=v }).map (·.born)=l.map (·.born):=by
 induction l generalizing j with
 | nil=>cases j<;>rfl
 | cons y l ih=>
   cases j with
   | zero=>rfl
   | succ j=>
     rw [List.modify_succ_cons,List.map_cons,List.map_cons,ih j]
theorem srcO_ok {b2 o2 n2 k2:Nat} {cs:List AV} {ys:List (List AV)} {u:Value} (hc:CW X g0 h w) (hin:(b2,Ob.vec cs)∈h) (hu:Rep ⟨g0,live X h,w⟩ (.osl b2 o2 n2 k2) u)
  (hcs:(cs.drop o2).take (n2*k2)=ys.flatten) (hyk:∀ z∈ys,z.length=k2) (hyn:ys.length=n2) :
  ∃ news:List Value,(∀ w',(Builtin.lenOf u).run P w'=.ok ys.length w')∧(∀ w':World,w'.heap=w.heap→(Builtin.firstCells k2 ys.length u).run P w'=.ok news.toArray w') ∧
   RepVs ⟨g0,live X h,w⟩ ys.flatten news∧(∀ x∈ys,x.length=k2)∧(∀ v∈news,v.oneCell'=true):=by
 simp only [Rep] at hu
 obtain ⟨p,cap,o2',hp,hsp,rfl,x2,x3,x4,x5,x6,x7⟩:=hu
 obtain ⟨q,cc,t,h1,h2,h3,h4,h5,h6⟩:=hc.obj b2 _ hin
 simp only at h1 h3 h4 hp
 rw [hp] at h1;cases h1
 have hfl:ys.flatten.length=n2*k2:=by rw [flat_length hyk,hyn]
 have hlen:o2+n2*k2≤cs.length∨n2*k2=0:=by
  have:=congrArg List.length hcs
  rw [hfl,List.length_take,List.length_drop] at this
  omega
 have hget:∀ j,j<n2*k2→∃ x,ys.flatten[j]?=some x∧cc[p.off+(o2+j)]?=some (cc[p.off+(o2+j)]!)∧(cc[p.off+(o2+j)]!).oneCell'=true∧Rep ⟨g0,live X h,w⟩ x (cc[p.off+(o2+j)]!):=by
  intro j hj
  have hj2:o2+j<cs.length:=by omega
  have hg:ys.flatten[j]?=some cs[o2+j]:=by
   rw [← hcs,List.getElem?_take_of_lt hj,List.getElem?_drop,List.getElem?_eq_getElem hj2]
  obtain ⟨v,a1,a2,a3⟩:=h6 (o2+j) cs[o2+j] (List.getElem?_eq_getElem hj2)
  have hv:cc[p.off+(o2+j)]! = v:=by
   have hlt2:=(Array.getElem?_eq_some_iff.1 a1).1
   rw [getElem!_pos cc _ hlt2];exact (Array.getElem?_eq_some_iff.1 a1).2
  exact ⟨_,hg,by rw [hv];exact a1,by rw [hv];exact a2,by rw [hv];exact a3⟩
 have hnl:((List.range (n2*k2)).map fun j=>cc[p.off+(o2+j)]!).length=n2*k2:=by simp
 have hng:∀ j,j<n2*k2→((List.range (n2*k2)).map fun j=>cc[p.off+(o2+j)]!)[j]?=some (cc[p.off+(o2+j)]!):=fun j hj=>by simp [hj]
 have hrep:∀ {xs:List AV} {us:List Value},xs.length=us.length→(∀ (i:Nat) x u,xs[i]?=some x→us[i]?=some u→Rep ⟨g0,live X h,w⟩ x u)→RepVs ⟨g0,live X h,w⟩ xs us:=by
  intro xs
  induction xs with
  | nil=>intro us hl _;have:us=[]:=List.eq_nil_of_length_eq_zero (by simpa using hl.symm);subst this;simp [RepVs]
  | cons x xs ih=>
    intro us hl hh
    match us,hl with
    | v::us,hl=>
      simp only [RepVs]
      exact ⟨v,us,rfl,hh 0 x v rfl rfl,ih (by simpa using hl) fun i x u h1 h2=>hh (i+1) x u (by simpa using h1) (by simpa using h2)⟩
 refine ⟨(List.range (n2*k2)).map fun j=>cc[p.off+(o2+j)]!,fun w'=>by simp [Builtin.lenOf,hyn],fun w' hw=>?_,hrep (by rw [hfl,hnl]) fun j x v hx hv=>?_,hyk,fun v hv=>?_⟩
 ·rw [hyn]
  refine run_firstCells_some w' k2 n2 ⟨p.block,p.off+o2',none⟩ n2 cap _ hnl (fun j v hj=>?_)
  have hj2:j<n2*k2:=by have:=(List.getElem?_eq_some_iff.1 hj).1;rw [hnl] at this;exact this
  have hn2:0<n2:=by
   rcases Nat.eq_zero_or_pos n2 with h|h
   ·subst h;simp at hj2
   ·exact h
  have:=x6 (by omega)
  subst this
  rw [hng j hj2] at hj;cases hj
  obtain ⟨_,_,a1,_,_⟩:=hget j hj2
  have hadd:(⟨p.block,p.off+o2',none⟩:Addr).add j=⟨p.block,p.off+(o2'+j),none⟩:=by
   unfold Addr.add
   split
   ·rename_i h0;rw [h0];simp
   ·simp [Nat.add_assoc]
  rw [hadd]
  simp only [World.cell?,hw,h4]
  simpa using a1
 ·have hj2:j<n2*k2:=by have:=(List.getElem?_eq_some_iff.1 hv).1;rw [hnl] at this;exact this
  rw [hng j hj2] at hv;cases hv
  obtain ⟨x',b1,_,_,b4⟩:=hget j hj2
  rw [hx] at b1;cases b1
  exact b4
 ·obtain ⟨j,hj,rfl⟩:=List.mem_map.1 hv
  exact (hget j (List.mem_range.1 hj)).choose_spec.2.2.1
theorem getObj_run {r pos:Nat} {b:ByteArray} (h:w.heap[r]?=some (.stringIter b pos)):(getObj r).run P w=.ok (.stringIter b pos) w:=by simp [getObj,Sem.run,h]
theorem siter_store {l1 l2:Heap} {b pos pos':Nat} {s:List UInt8} {bs:ByteArray} {p:Addr} (hc:CW X g0 (l1++(b,.siter s pos)::l2) w) (hp:g0.pl b=some p) (ho:g0.ow p.block=some (b,0))
  (hb:w.heap[p.block]?=some (.stringIter bs pos)) (hs:bs.data.toList=s) (hl:s.length≤LMAX) :
  (setObj p.block (.stringIter bs pos')).run P w=.ok () { w with heap:=w.heap.setIfInBounds p.block (.stringIter bs pos') } ∧
  CW X g0 (l1++(b,.siter s pos')::l2) { w with heap:=w.heap.setIfInBounds p.block (.stringIter bs pos') } ∧
  Step X g0 (l1++(b,.siter s pos)::l2) w g0 (l1++(b,.siter s pos')::l2) { w with heap:=w.heap.setIfInBounds p.block (.stringIter bs pos') }:=by
 have hlt:p.block<w.heap.size:=(Array.getElem?_eq_some_iff.1 hb).1
 have hoth:∀ blk,blk≠p.block→(w.heap.setIfInBounds p.block (.stringIter bs pos'))[blk]?=w.heap[blk]?:=fun blk hne=>Array.getElem?_setIfInBounds_ne (Ne.symm hne)
 have hbk:b∈keys (l1++(b,.siter s pos)::l2):=by rw [keys_mem];exact .inl rfl
 have hst:Step X g0 (l1++(b,.siter s pos)::l2) w g0 (l1++(b,.siter s pos')::l2) { w with heap:=w.heap.setIfInBounds p.block (.stringIter bs pos') }:=by
  refine ⟨rfl,⟨rfl,Nat.le_refl _⟩,rfl,by simp,fun _ _ e=>e,fun _ _ _ e _=>e,fun _ _ _ e _=>e,fun _ _ e=>e,?_,?_,?_⟩
  ·intro blk hlt hn
   have hne:blk≠p.block:=fun e=>hn b 0 (e ▸ ho) hbk
   refine ⟨hoth blk hne,fun k s hk hm=>hn k s hk ?_⟩
   rw [keys_mem] at hm ⊢;exact hm
  ·intro blk k s hk hm dd tt ff hdd
   by_cases e:blk=p.block
   ·subst e;rw [hb] at hdd;cases hdd
   ·exact ⟨dd,(hoth blk e).trans hdd,rfl,fun _ _=>rfl⟩
  ·intro blk k s hk _ k' s' hk' _
   rw [hk] at hk';cases hk';exact Nat.le_refl _
 refine ⟨by simp [setObj,Sem.run,hb],?_,hst⟩
 refine hc.replace hst (fun blk k s hk=>by have:=hc.own _ _ _ hk;simpa using this) (.inl rfl) (fun k hk=>.inr hk) (fun blk s k hk=>.inr ⟨blk,s,hk⟩) ?_ ?_
 ·intro blk k s hk hm
  have hne:blk≠p.block:=by
   intro e;rw [e,ho] at hk;cases hk
   exact hc.notmem hm
  exact ⟨hoth blk hne,rfl⟩
 ·exact ⟨p,bs,hp,ho,by simp [hlt],hs,hl⟩
theorem copy_ok {N:Nat} {dst:Option Tmp} {cl:Call} {ty:TypeId} {pos:String} {aft:Array Edge} {gd:Option (Nat × Bool)} {t tx e:TypeId} {b o m k n:Nat} {cs:List AV} {ys:List (List AV)} {r:Regs} {h h':Heap} {a:Act} {w:World} {u uy:Value} {news:List Value} {K:AV→Heap→Prop} {next:Act→World→Prop} {Q:Exit→Act→World→Prop}
  (hc:Conc N X g0 r h a w) (hud:P.underlying t=some (.slice e)) (hk:k=P.cellsOf e) (hk1:1≤P.cellsOf e) (hu:Upd b (.vec cs) b (.vec (setC cs o ys.flatten)) h h') (h1:Rep ⟨g0,live X h,w⟩ (.osl b o m k) u)
  (hcal:cl.callee=.builtin .copy) (hat:cl.argTypes.toList=[t,tx]) (e1:List.map a.eval cl.args.toList=[u,uy]) (hle:o+ys.flatten.length≤cs.length) (hm0:0<m)
  (hK:K (.int .i64 ys.length) h') (hn:NextL X g0 h w K dst a next) (hmin:ys.length=min n m) (hlen:∀ w',(Builtin.lenOf uy).run P w'=.ok n w')
  (hfc:∀ w':World,w'.heap=w.heap→(Builtin.firstCells (P.cellsOf e) ys.length uy).run P w'=.ok news.toArray w') (hrep:RepVs ⟨g0,live X h,w⟩ ys.flatten news) (hone:∀ v∈news,v.oneCell'=true) :
  (⟨dst,.call cl,ty,pos,aft,gd⟩:Oper).wp P a w next Q:=by
 obtain ⟨l1,l2,rfl,rfl⟩:=Upd.split hu
 obtain ⟨p,cap,x1,x2,rfl,x3,x4,x5,x6,_⟩:=h1.oslE hm0
 simp only at x1
 obtain ⟨q,cc,tt,p1,p2,p3,p4,p5,p6⟩:=vec_store (o:=o) hc.cw hle hrep hone
 rw [x1] at p1;cases p1
 refine wp_value (u:=goInt ys.length) (w':=w.setCells p.block (p.off+o) news) ?_ (hn (.int .i64 ys.length) _ g0 _ _ hK p5 (by
  rw [Rep]
  refine ⟨rfl,?_⟩
  unfold LMAX at x4
  simp [IntKind.has,IntKind.min,IntKind.max,IntKind.signed,IntKind.bits]
  omega) p6)
 have h1:cl.args.map a.eval=#[.slice (some ⟨p.block,p.off+o,none⟩) m cap,uy]:=by rw [← Array.toList_inj];simpa using e1
 have h2:cl.argTypes=#[t,tx]:=by rw [← Array.toList_inj];simpa using hat
 have hst:=run_storeCells_cells (P:=P) p.block (p.off+o) news 0 w
  (fun j hj=>by
    simp only [Nat.add_zero]
    rw [cell_of_row w p.block (p.off+o+j) cc tt _ p3]
    have:p.off+o+j<cc.size:=by omega
    simp [this])
  (fun j hj=>frozen_of_row w p.block _ cc tt p3) hone
 simp only [Nat.add_zero] at hst
 obtain ⟨i,hi,his⟩:∃ i,P.info? e=some i∧i.size=P.cellsOf e:=by
  cases hi:P.info? e with
  | none=>simp [Program.cellsOf,hi] at hk1
  | some i=>exact ⟨i,rfl,by simp [Program.cellsOf,hi]⟩
 have hcp:(Builtin.copy_ #[t,tx] ty #[.slice (some ⟨p.block,p.off+o,none⟩) m cap,uy]).run P w=.ok (goInt ys.length) (w.setCells p.block (p.off+o) news):=by
  have hf:=hfc w rfl
  simp only [Builtin.copy_,List.getElem?_toArray,List.getElem?_cons_zero,List.getElem?_cons_succ,Sem.run_bind,run_und hud,Result.andThen_ok,hlen,sizeOf,typeInfo,run_program,hi,his]
  have hmin':Nat.min n m=ys.length:=hmin.symm
  simp only [hmin',Sem.run_pure,Result.andThen_ok,his,hf,hst]
 simp [execOp,resolve,hcal,invoke,builtin,h1,h2,hcp]
theorem osl_src {c:Cx} {b2 o2 n2 k2 m:Nat} {u2:Value} (h2:Rep c (.osl b2 o2 n2 k2) u2):(∀ w',(Builtin.lenOf u2).run P w'=.ok n2 w') ∧
  ∃ u2',Rep c (.osl b2 o2 (min n2 m) k2) u2'∧(∀ c j,Builtin.firstCells c j u2=Builtin.firstCells c j u2'):=by
 rw [Rep] at h2
 obtain ⟨p,cap,o',x1,x2,rfl,x3,x4,x5,x6,x7,x8⟩:=h2
 refine ⟨fun w'=>by simp [Builtin.lenOf],.slice (some ⟨p.block,p.off+o',none⟩) (min n2 m) cap,?_,fun c j=>rfl⟩
 rw [Rep]
 exact ⟨p,cap,o',x1,x2,rfl,by omega,by omega,x5,x6,x7,x8⟩
theorem oslc_src {c:Cx} {b2 o2 n2 c2 k2 m:Nat} {u2:Value} (h2:Rep c (.oslc b2 o2 n2 c2 k2) u2):(∀ w',(Builtin.lenOf u2).run P w'=.ok n2 w') ∧
  ∃ u2',Rep c (.osl b2 o2 (min n2 m) k2) u2'∧(∀ c j,Builtin.firstCells c j u2=Builtin.firstCells c j u2'):=by
 rw [Rep] at h2
 obtain ⟨p,x1,x2,rfl,x3,x4,x5,x6,x8⟩:=h2
 refine ⟨fun w'=>by simp [Builtin.lenOf],.slice (some ⟨p.block,p.off+o2,none⟩) (min n2 m) c2,?_,fun c j=>rfl⟩
 rw [Rep]
 exact ⟨p,c2,o2,x1,x2,rfl,by omega,by omega,x5,x6,fun _=>rfl,x8⟩
theorem copyC_ok {N:Nat} {dst:Option Tmp} {cl:Call} {ty:TypeId} {pos:String} {aft:Array Edge} {gd:Option (Nat × Bool)} {t tx e:TypeId} {b o m k n c:Nat} {cs:List AV} {ys:List (List AV)} {r:Regs} {h h':Heap} {a:Act} {w:World} {u uy:Value} {news:List Value} {K:AV→Heap→Prop} {next:Act→World→Prop} {Q:Exit→Act→World→Prop}
  (hc:Conc N X g0 r h a w) (hud:P.underlying t=some (.slice e)) (hk:k=P.cellsOf e) (hk1:1≤P.cellsOf e) (hu:Upd b (.vec cs) b (.vec (setC cs o ys.flatten)) h h') (h1:Rep ⟨g0,live X h,w⟩ (.oslc b o m c k) u)
  (hcal:cl.callee=.builtin .copy) (hat:cl.argTypes.toList=[t,tx]) (e1:List.map a.eval cl.args.toList=[u,uy]) (hle:o≤cs.length) (hlm:ys.flatten.length≤m*k)
  (hK:K (.int .i64 ys.length) h') (hn:NextL X g0 h w K dst a next) (hmin:ys.length=min n m) (hlen:∀ w',(Builtin.lenOf uy).run P w'=.ok n w')
  (hfc:∀ w':World,w'.heap=w.heap→(Builtin.firstCells (P.cellsOf e) ys.length uy).run P w'=.ok news.toArray w') (hrep:RepVs ⟨g0,live X h,w⟩ ys.flatten news) (hone:∀ v∈news,v.oneCell'=true) :
  (⟨dst,.call cl,ty,pos,aft,gd⟩:Oper).wp P a w next Q:=by
 obtain ⟨l1,l2,rfl,rfl⟩:=Upd.split hu
 rw [Rep] at h1
 obtain ⟨p,x1,x2,rfl,x3,x4,x5,x6,x7⟩:=h1
 simp only at x1 x6
 obtain ⟨hst,_,p5,p6⟩:=vec_write (P:=P) (o:=o) hc.cw x1 x6 hle (by have:=Nat.mul_le_mul_right k x3;omega) hrep hone
 refine wp_value (u:=goInt ys.length) (w':=w.setCells p.block (p.off+o) news) ?_ (hn (.int .i64 ys.length) _ g0 _ _ hK p5 (by
  rw [Rep]
  refine ⟨rfl,?_⟩
  unfold LMAX at x4
  simp [IntKind.has,IntKind.min,IntKind.max,IntKind.signed,IntKind.bits]
  omega) p6)
 have h1:cl.args.map a.eval=#[.slice (some ⟨p.block,p.off+o,none⟩) m c,uy]:=by rw [← Array.toList_inj];simpa using e1
 have h2:cl.argTypes=#[t,tx]:=by rw [← Array.toList_inj];simpa using hat
 obtain ⟨i,hi,his⟩:∃ i,P.info? e=some i∧i.size=P.cellsOf e:=by
  cases hi:P.info? e with
  | none=>simp [Program.cellsOf,hi] at hk1
  | some i=>exact ⟨i,rfl,by simp [Program.cellsOf,hi]⟩
 have hcp:(Builtin.copy_ #[t,tx] ty #[.slice (some ⟨p.block,p.off+o,none⟩) m c,uy]).run P w=.ok (goInt ys.length) (w.setCells p.block (p.off+o) news):=by
  have hf:=hfc w rfl
  simp only [Builtin.copy_,List.getElem?_toArray,List.getElem?_cons_zero,List.getElem?_cons_succ,Sem.run_bind,run_und hud,Result.andThen_ok,hlen,sizeOf,typeInfo,run_program,hi,his]
  have hmin':Nat.min n m=ys.length:=hmin.symm
  simp only [hmin',Sem.run_pure,Result.andThen_ok,his,hf,hst]
 simp [execOp,resolve,hcal,invoke,builtin,h1,h2,hcp]
theorem opL_ok {o:Oper} {K:AV→Heap→Prop} {next:Act→World→Prop} {Q:Exit→Act→World→Prop}
  (hq:opL P r h K o.op) (hc:Conc n X g0 r h a w) (hn:NextL X g0 h w K o.dst a next):o.wp P a w next Q:=by
 have hg0:holdsC a []:=fun e he=>by cases he
 obtain ⟨dst,op,ty,pos,aft,gd⟩:=o
 simp only at hq hn
 cases op
 case binOp op t x y yt=>
  cases op<;>try (simp [opL] at hq;done)
  simp only [opL] at hq
  cases hx:opnd r [] x with
  | none=>simp [hx] at hq
  | some u=>
    cases u<;>try (simp [hx] at hq;done)
    rename_i k1 a1
    cases k1<;>try (simp [hx] at hq;done)
    simp only [hx] at hq
    cases hy:opnd r [] y with
    | none=>simp [hy] at hq
    | some v=>
      cases v<;>try (simp [hy] at hq;done)
      rename_i k2 a2
      cases k2<;>try (simp [hy] at hq;done)
      simp only [hy] at hq
      have hu:=hc.opnd hg0 hx
      have hv:=hc.opnd hg0 hy
      rw [Rep] at hu hv
      obtain ⟨hu,_⟩:=hu
      obtain ⟨hv,_⟩:=hv
      refine wp_value (u:=.int .i64 (IntKind.i64.wrap (a1+a2))) (w':=w) ?_ (hn _ _ g0 _ _ hq hc.cw ?_ (Step.refl _ _ _ _))
      ·simp [execOp,hu,hv,run_eqGuard,binOp,Op.intArith]
      ·rw [Rep]
       refine ⟨rfl,?_⟩
       constructor<;>simp [IntKind.min,IntKind.max,IntKind.wrap,IntKind.signed,IntKind.bits]<;>(try split)<;>omega
 case box t x=>
  simp only [opL] at hq
  cases hx:opnd r [] x with
  | none=>simp [hx] at hq
  | some v=>
    simp only [hx] at hq
    cases hv:cellsV v with
    | none=>simp [hv] at hq
    | some l=>
      simp only [hv] at hq
      split at hq
      ·have hr:=hc.opnd hg0 hx
       obtain ⟨h1,h2⟩:=cellsV_rep hv hr
       obtain ⟨k,g',k1,k2,k3⟩:=hc.cw.newVec t h1 h2
       refine wp_value (u:=.pointer (some ⟨w.heap.size,0,none⟩)) (w':=w.alloc (.cells (a.eval x).cells t)) ?_ (hn _ _ g' _ _ (hq k) k2 ?_ k3)
       ·simp [execOp,Instr.box,newVar,newRow]
       ·rw [Rep];exact ⟨_,k1,rfl,rfl⟩
      ·exact hq.elim
 case alloc t=>
  simp only [opL] at hq
  cases hz:zeroCs P t with
  | none=>simp [hz] at hq
  | some z=>
    simp only [hz] at hq
    obtain ⟨i,zv,hi,hzv,hzr,hz1⟩:=zeroCs_ok (c:=⟨g0,live X h,w⟩) hz
    obtain ⟨k,g',k1,k2,k3⟩:=hc.cw.newVec t hzr hz1
    refine wp_value (u:=.pointer (some ⟨w.heap.size,0,none⟩)) (w':=w.alloc (.cells zv.cells t)) ?_ (hn _ _ g' _ _ (hq k) k2 ?_ k3)
    ·simp [execOp,Instr.alloc,newVar,newRow,zeroValue,typeInfo,hi,hzv]
    ·rw [Rep];exact ⟨_,k1,rfl,rfl⟩
 case store t x y=>
  simp only [opL] at hq
  cases hx:opnd r [] x with
  | none=>simp [hx] at hq
  | some vx=>
    have hrx:=hc.opnd hg0 hx
    cases vx<;>try (simp [hx] at hq;done)
    rename_i b ofs
    simp only [hx] at hq
    cases hy:opnd r [] y with
    | none=>simp [hy] at hq
    | some v=>
      simp only [hy] at hq
      cases hv:cellsV v with
      | none=>simp [hv] at hq
      | some l=>
        simp only [hv] at hq
        split at hq<;>try contradiction
        rename_i hlen
        have hlen:=Nat.eq_of_beq_eq_true hlen
        obtain ⟨cs,h',hu,⟨hpos,hle⟩,hK⟩:=hq
        obtain ⟨l1,l2,rfl,rfl⟩:=Upd.split hu
        obtain ⟨r1,r2⟩:=cellsV_rep hv (hc.opnd hg0 hy)
        obtain ⟨p,cc,tt,p1,p2,p3,p4,p5,p6⟩:=vec_store hc.cw hle r1 (by intro u hu;exact r2 u (by simpa using hu))
        rw [Rep] at hrx
        obtain ⟨p',q1,q2,q3⟩:=hrx
        simp only at q1
        rw [p1] at q1;cases q1
        have hlu:=r1.length
        simp at hlu
        refine wp_skipv (w':=w.setCells p.block (p.off+ofs) (a.eval y).cells.toList) ?_ (hn .unit _ g0 _ _ hK p5 (by simp [Rep]) p6)
        have:=run_storeVar (P:=P) (w:=w) (t:=t) (b:=p.block) (o:=p.off+ofs) (u:=a.eval y) (by omega) (by omega) p3 (by simp at p4;omega) r2
        simp [execOp,q3,this]
 case makeMap t rr=>
  cases rr with
  | some _=>simp [opL] at hq
  | none=>
    simp only [opL] at hq
    obtain ⟨k,f1,f2,st,mk⟩:=hc.cw.newAt (.map #[] 0) 0
    refine wp_value (u:=.map (some w.heap.size)) (w':=w.alloc (.map #[] 0)) ?_ (hn _ _ _ _ _ (hq k) (mk (.map []) ?_) ?_ (st _))
    ·have hm:(Instr.makeMap t none).run P w=.ok (.map (some w.heap.size)) (w.alloc (.map #[] 0)):=rfl
     simp only [execOp,Option.map_none,hm,Sem.run_bind,Result.andThen,Sem.run_pure]
    ·exact ⟨⟨w.heap.size,0,none⟩,0,#[],by simp [Gh.set],by simp [Gh.set],heap_alloc_new w _,rfl,by simp,by simp⟩
    ·rw [Rep];exact ⟨⟨w.heap.size,0,none⟩,by simp [Gh.set],rfl⟩
 case mapUpdate t m k x=>
  simp only [opL] at hq
  split at hq<;>try contradiction
  rename_i kt et hty
  split at hq<;>try contradiction
  rename_i b hm
  split at hq<;>try contradiction
  rename_i kv hk
  split at hq<;>try contradiction
  rename_i v hv
  obtain ⟨es,h',hu,⟨hfit,hget⟩,hK⟩:=hq
  obtain ⟨l1,l2,rfl,rfl⟩:=Upd.split hu
  have hrm:=hc.opnd hg0 hm
  have hrk:=hc.opnd hg0 hk
  have hrv:=hc.opnd hg0 hv
  rw [Rep] at hrm
  obtain ⟨p,hp,hmv⟩:=hrm
  obtain ⟨p',cl,ents,o1,o2,o3,o4,o5,o6⟩:=hc.cw.obj b (.map es) (by simp)
  simp only at o1 o2 o3
  rw [hp] at o1;cases o1
  have hck:=run_checkKey' (P:=P) (w:=w) hfit hrk false 9998
  cases hg:mget P kt kv es with
  | none=>exact absurd hg hget
  | some r0=>
    obtain ⟨res,r1,r2⟩:=run_findKey' (P:=P) (w:=w) hfit hrk o4 hg
    cases r0 with
    | none=>
      obtain ⟨rfl,hset⟩:=r2
      obtain ⟨s1,s2,s3⟩:=map_store (P:=P) (es':=mset P kt kv v es) (ents':=ents.push { key:=a.eval k,val:=a.eval x,born:=cl }) (cl':=cl+1) hc.cw hp o2 o3
       (by rw [hset v,Array.toList_push];exact EntsRep.append o4 hrk hrv)
       (by
         intro y hy
         rw [Array.toList_push] at hy
         rcases List.mem_append.1 hy with hy|hy
         ·have:=o5 y hy;omega
         ·simp at hy;subst hy;simp)
       (by
         rw [Array.toList_push,List.map_append,List.nodup_append]
         refine ⟨o6,by simp,?_⟩
         intro q hq z hz e
         simp at hz;subst hz
         obtain ⟨y,hy,rfl⟩:=List.mem_map.1 hq
         have:=o5 y hy;omega)
      refine wp_skipv (w':={ w with heap:=w.heap.setIfInBounds p.block (.map (ents.push { key:=a.eval k,val:=a.eval x,born:=cl }) (cl+1)) }) ?_ (hn .unit _ g0 _ _ hK s2 (by simp [Rep]) s3)
      have hgo:(getObj p.block).run P w=.ok (.map ents cl) w:=by simp [getObj,Sem.run,o3]
      simp only [execOp,hmv,Instr.mapUpdate,Sem.run_bind,run_und hty,Result.andThen_ok,hgo,hck,r1,s1,Sem.run_pure]
    | some v0=>
      obtain ⟨j,e,rfl,q2,q3,q4,q5⟩:=r2
      have hmodb:=modify_born ents.toList j (a.eval k) (a.eval x)
      obtain ⟨s1,s2,s3⟩:=map_store (P:=P) (es':=mset P kt kv v es) (ents':=ents.modify j fun e=>{ e with key:=a.eval k,val:=a.eval x }) (cl':=cl) hc.cw hp o2 o3
       (q5 v (a.eval x) hrv)
       (by
         intro y hy
         rw [Array.toList_modify] at hy
         have hy':y.born∈ents.toList.map (·.born):=by rw [← hmodb];exact List.mem_map.2 ⟨y,hy,rfl⟩
         obtain ⟨z,hz,e⟩:=List.mem_map.1 hy'
         have:=o5 z hz
         omega)
       (by rw [Array.toList_modify,hmodb];exact o6)
      refine wp_skipv (w':={ w with heap:=w.heap.setIfInBounds p.block (.map (ents.modify j fun e=>{ e with key:=a.eval k,val:=a.eval x }) cl) }) ?_ (hn .unit _ g0 _ _ hK s2 (by simp [Rep]) s3)
      have hgo:(getObj p.block).run P w=.ok (.map ents cl) w:=by simp [getObj,Sem.run,o3]
      have hks:(Instr.keyThatStays e.key (a.eval k)).run P w=.ok (a.eval k) w:=by simp [Instr.keyThatStays,q4]
      simp only [execOp,hmv,Instr.mapUpdate,Sem.run_bind,run_und hty,Result.andThen_ok,hgo,hck,r1,q2,Option.map_some,Option.getD_some,hks,s1,Sem.run_pure]
 case range t x=>
  simp only [opL] at hq
  split at hq<;>try contradiction
  ·rename_i kt et hty
   split at hq<;>try contradiction
   rename_i m hm
   obtain ⟨es,hin,hK⟩:=hq
   have hrm:=hc.opnd hg0 hm
   rw [Rep] at hrm
   obtain ⟨p,hp,hmv⟩:=hrm
   obtain ⟨l1,l2,rfl⟩:=List.append_of_mem hin
   obtain ⟨p',bs,cl,ents,o1,o2,o3,o4,o5,o6⟩:=map_ranged hc.cw
   simp only at hp
   rw [hp] at o3;cases o3
   obtain ⟨h',hu,hK⟩:=hK bs cl ⟨o1,o2⟩
   have hh:h'=l1++(m,.rmap es bs cl)::l2:=by
    obtain ⟨m1,m2,e1,rfl⟩:=Upd.split hu
    have hnd:=hc.cw.nodup
    obtain ⟨rfl,rfl⟩:=split_uniq hnd e1
    rfl
   subst hh
   obtain ⟨it,f1,f2,st,mk⟩:=o5.newAt (.mapIter (some p.block) cl #[] cl) 0
   refine wp_value (u:=.pointer (some ⟨w.heap.size,0,none⟩)) (w':=w.alloc (.mapIter (some p.block) cl #[] cl)) ?_ (hn _ _ _ _ _ (hK it) (mk _ ?_) ?_ (o6.trans hc.cw.own (st _)))
   ·have hrun:=run_range_map (P:=P) w t kt et p.block ents cl hty o4
    simp only [execOp,hmv,hrun,Sem.run_bind,Result.andThen,Sem.run_pure]
   ·have hne:m≠it:=fun e=>f1 (by rw [← e,keys_mem];exact .inl rfl)
    exact ⟨⟨w.heap.size,0,none⟩,p,#[],by simp [Gh.set],by simp [Gh.set],heap_alloc_new w _,by simp [Gh.set,hne,hp],rfl⟩
   ·rw [Rep];exact ⟨⟨w.heap.size,0,none⟩,by simp [Gh.set],rfl⟩
  ·rename_i hty
   split at hq<;>try contradiction
   rename_i s hx
   have hrx:=hc.opnd hg0 hx
   rw [Rep] at hrx
   obtain ⟨bs,hxv,hbs,hsl⟩:=hrx
   obtain ⟨it,f1,f2,st,mk⟩:=hc.cw.newAt (.stringIter bs 0) 0
   refine wp_value (u:=.pointer (some ⟨w.heap.size,0,none⟩)) (w':=w.alloc (.stringIter bs 0)) ?_ (hn _ _ _ _ _ (hq it) (mk _ ?_) ?_ (st _))
   ·have hrun:(Instr.range t (.string bs)).run P w=.ok (.pointer (some ⟨w.heap.size,0,none⟩)) (w.alloc (.stringIter bs 0)):=by
     simp only [Instr.range,Sem.run_bind,run_und hty,Result.andThen_ok,Sem.run_pure]
     rfl
    simp only [execOp,hxv,hrun,Sem.run_bind,Result.andThen,Sem.run_pure]
   ·exact ⟨⟨w.heap.size,0,none⟩,bs,by simp [Gh.set],by simp [Gh.set],heap_alloc_new w _,hbs,hsl⟩
   ·rw [Rep];exact ⟨⟨w.heap.size,0,none⟩,by simp [Gh.set],rfl⟩
 case next x sb=>
  cases sb with
  | true=>
    simp only [opL] at hq
    split at hq<;>try contradiction
    rename_i it hx
    obtain ⟨s,pos,hin,hend,hgo⟩:=hq
    have hrx:=hc.opnd hg0 hx
    rw [Rep] at hrx
    obtain ⟨p,hp,hxv⟩:=hrx
    obtain ⟨p',bs,i1,i2,i3,i4,i5⟩:=hc.cw.obj it _ hin
    simp only at i1 hp i2 i3
    rw [hp] at i1;cases i1
    have hsz:bs.size=s.length:=by rw [← i4];rfl
    have hbs:bs=⟨s.toArray⟩:=by rw [← i4]
    by_cases hpos:pos<s.length
    ·obtain ⟨h',hu,hK⟩:=hgo hpos
     obtain ⟨l1,l2,rfl,rfl⟩:=Upd.split hu
     have hdec:Utf8.decode bs pos=decS s pos:=by rw [hbs];rfl
     obtain ⟨s1,s2,s3⟩:=siter_store (P:=P) (pos':=pos+(decS s pos).2) hc.cw hp i2 i3 i4 i5
     refine wp_value (u:=.tuple #[.bool true,goInt pos,.int .i32 (decS s pos).1]) (w':={ w with heap:=w.heap.setIfInBounds p.block (.stringIter bs (pos+(decS s pos).2)) }) ?_ (hn _ _ g0 _ _ hK s2 ?_ s3)
     ·have hrun:(Instr.next (.pointer (some ⟨p.block,0,none⟩)) true ty).run P w=.ok (.tuple #[.bool true,goInt pos,.int .i32 (decS s pos).1]) { w with heap:=w.heap.setIfInBounds p.block (.stringIter bs (pos+(decS s pos).2)) }:=by
       simp only [Instr.next,Sem.run_bind,getObj_run i3,Result.andThen_ok,hsz,hpos,if_true,hdec,s1,Sem.run_pure]
      simp only [execOp,hxv,hrun,Sem.run_bind,Result.andThen,Sem.run_pure]
     ·rw [Rep]
      refine ⟨_,rfl,?_⟩
      simp only [RepVs]
      refine ⟨_,_,rfl,by rw [Rep],_,_,rfl,by rw [Rep];exact ⟨rfl,has_i64_len (by omega)⟩,_,_,rfl,?_,rfl⟩
      rw [Rep]
      refine ⟨rfl,?_⟩
      have:=decode_le bs pos
      rw [hdec] at this
      constructor<;>simp [IntKind.min,IntKind.max,IntKind.signed,IntKind.bits]<;>omega
    ·have hK:=hend (by omega)
     refine wp_value (u:=.tuple #[.bool false]) (w':=w) ?_ (hn _ _ g0 _ _ hK hc.cw ?_ (Step.refl _ _ _ _))
     ·have hrun:(Instr.next (.pointer (some ⟨p.block,0,none⟩)) true ty).run P w=.ok (.tuple #[.bool false]) w:=by
       simp only [Instr.next,Sem.run_bind,getObj_run i3,Result.andThen_ok,hsz,hpos,if_false,Sem.run_pure]
      simp only [execOp,hxv,hrun,Sem.run_bind,Result.andThen,Sem.run_pure]
     ·rw [Rep]
      refine ⟨_,rfl,?_⟩
      simp only [RepVs]
      exact ⟨_,_,rfl,by rw [Rep],rfl⟩
  | false=>
    simp only [opL] at hq
    split at hq<;>try contradiction
    rename_i it hx
    obtain ⟨m,cl,seen,es,bs,hin,hmin,hend,hgo⟩:=hq
    have hrx:=hc.opnd hg0 hx
    rw [Rep] at hrx
    obtain ⟨p,hp,hxv⟩:=hrx
    obtain ⟨p',pm,sa,i1,i2,i3,i4,i5⟩:=hc.cw.obj it _ hin
    obtain ⟨pm',ents,m1,m2,m3,m4,m5,m6,m7⟩:=hc.cw.obj m _ hmin
    simp only at hp i1 i2 i3 i4 m1 m2 m3
    rw [hp] at i1;cases i1
    rw [i4] at m1;cases m1
    rcases run_next_any (P:=P) (w:=w) ty p.block pm.block cl sa ents i3 m3 m5 with ⟨h0,hrun⟩|⟨e,he,w1,hal,hrun⟩
    ·refine wp_value (u:=.tuple #[.bool false]) (w':=w) ?_ (hn _ _ g0 _ _ (hend ?_) hc.cw ?_ (Step.refl _ _ _ _))
     ·simp only [execOp,hxv,hrun,Sem.run_bind,Result.andThen,Sem.run_pure]
     ·intro b hb
      rw [← m7] at hb
      obtain ⟨e,he,rfl⟩:=List.mem_map.1 hb
      rw [← i5]
      cases hcon:sa.contains e.born with
      | true=>simpa using hcon
      | false=>
        have:e∈(leftOf ents sa).toList:=by
         unfold leftOf
         rw [Array.mem_toList_iff,Array.mem_filter]
         exact ⟨Array.mem_toList_iff.1 he,by rw [hcon];rfl⟩
        rw [show leftOf ents sa=#[] by simpa using h0] at this
        simp at this
     ·rw [Rep];exact ⟨#[.bool false],rfl,by simp [RepVs,Rep]⟩
    ·obtain ⟨he1,he2⟩:=mem_left he
     obtain ⟨i,hi⟩:=List.getElem?_of_mem he1
     have hbi:bs[i]?=some e.born:=by rw [← m7,List.getElem?_map,hi];rfl
     have hlt:i<es.length:=by rw [EntsRep.len m4];exact (List.getElem?_eq_some_iff.1 hi).1
     obtain ⟨x0,hx0⟩:∃ x0,es[i]?=some x0:=⟨_,List.getElem?_eq_getElem hlt⟩
     obtain ⟨e',q1,q2,q3⟩:=EntsRep.get m4 hx0
     rw [hi] at q1;cases q1
     obtain ⟨h',hu,hK⟩:=hgo i e.born x0 hbi hx0 (by rw [← i5];intro hm;have:sa.contains e.born=true:=(by simpa using hm);rw [he2] at this;cases this)
     obtain ⟨l1,l2,rfl,rfl⟩:=Upd.split hu
     obtain ⟨s1,s2⟩:=iter_store (sa':=sa.push e.born) (seen':=seen++[e.born]) hc.cw hal hp i2 i3 i4 (by simp [i5])
     refine wp_value (u:=.tuple #[.bool true,e.key,e.val]) (w':={ w1 with heap:=w1.heap.setIfInBounds p.block (.mapIter (some pm.block) cl (sa.push e.born) cl) }) ?_ (hn _ _ g0 _ _ hK s1 ?_ s2)
     ·simp only [execOp,hxv,hrun,Sem.run_bind,Result.andThen,Sem.run_pure]
     ·rw [Rep]
      refine ⟨_,rfl,?_⟩
      simp only [RepVs]
      exact ⟨_,_,rfl,by simp [Rep],_,_,rfl,Rep.mono (Step.le s2) _ _ q2,_,_,rfl,Rep.mono (Step.le s2) _ _ q3,rfl⟩
 case entry x=>
  simp only [opL] at hq
  split at hq<;>try contradiction
  rename_i it hx
  obtain ⟨m,cl,seen,es,bs,hin,hmin,i,b,x0,s0,rfl,hbi,hx0,hK⟩:=hq
  have hrx:=hc.opnd hg0 hx
  rw [Rep] at hrx
  obtain ⟨p,hp,hxv⟩:=hrx
  obtain ⟨p',pm,sa,i1,i2,i3,i4,i5⟩:=hc.cw.obj it _ hin
  obtain ⟨pm',ents,m1,m2,m3,m4,m5,m6,m7⟩:=hc.cw.obj m _ hmin
  simp only at hp i1 i2 i3 i4 m1 m2 m3
  rw [hp] at i1;cases i1
  rw [i4] at m1;cases m1
  obtain ⟨e,q1,q2,q3⟩:=EntsRep.get m4 hx0
  have hbe:e.born=b:=by rw [← m7,List.getElem?_map,q1] at hbi;simpa using hbi
  have hback:sa.back?=some e.born:=by
   rw [hbe,← Array.getLast?_toList,i5];simp
  have hrun:=run_entry_any (P:=P) (w:=w) p.block pm.block cl cl sa ents e i3 m3 hback (List.mem_of_getElem? q1) m6
  refine wp_value (u:=.tuple #[e.key,e.val]) (w':=w) ?_ (hn _ _ g0 _ _ hK hc.cw ?_ (Step.refl _ _ _ _))
  ·simp only [execOp,hxv,hrun,Sem.run_bind,Result.andThen,Sem.run_pure]
  ·rw [Rep]
   refine ⟨_,rfl,?_⟩
   simp only [RepVs]
   exact ⟨_,_,rfl,q2,_,_,rfl,q3,rfl⟩
 case makeSlice t x y=>
  simp only [opL] at hq
  cases hud:P.underlying t with
  | none=>simp [hud] at hq
  | some d=>
  cases d<;>try (simp [hud] at hq;done)
  rename_i e
  simp only [hud] at hq
  cases hx:opnd r [] x with
  | none=>simp [hx] at hq
  | some vx=>
  have hrx:=hc.opnd hg0 hx
  cases vx<;>try (simp [hx] at hq;done)
  rename_i kx m
  simp only [hx] at hq
  cases hy:opnd r [] y with
  | none=>simp [hy] at hq
  | some vy=>
  have hry:=hc.opnd hg0 hy
  cases vy<;>try (simp [hy] at hq;done)
  rename_i ky m'
  simp only [hy] at hq
  cases hz:zeroCs P e with
  | none=>simp [hz] at hq
  | some z=>
  simp only [hz] at hq
  split at hq<;>try contradiction
  rename_i q1
  split at hq<;>try contradiction
  rename_i q2
  split at hq<;>try contradiction
  rename_i q3
  have q1:=Nat.eq_of_beq_eq_true q1
  have q2:=Nat.le_of_ble_eq_true q2
  have q3:=Nat.le_of_ble_eq_true q3
  obtain ⟨⟨rfl,q4,q5⟩,hK⟩:=hq
  obtain ⟨i,zv,hi,hzv,hzr,hz1⟩:=zeroCs_ok (c:=⟨g0,live X h,w⟩) hz
  have hisz:i.size=P.cellsOf e:=by simp [Program.cellsOf,hi]
  have hib:i.bytes=P.bytesOf e:=by simp [Program.bytesOf,hi]
  have hzl:zv.cells.size=z.length:=by have:=hzr.length;simpa using this
  rw [Rep] at hrx hry
  obtain ⟨m,rfl⟩:=Int.eq_ofNat_of_zero_le q4
  have hbytes:(i.bytes:Int)*(m:Int)≤281474976710656:=by
   have h1:i.bytes*m≤4096*4294967296:=Nat.mul_le_mul (by omega) (by omega)
   have h2:((i.bytes*m:Nat):Int)≤281474976710656:=by omega
   rwa [Int.natCast_mul] at h2
  have hrun:=run_make (P:=P) w t e i zv hud hi hzv kx ky (m:Int) (m:Int) q4 (Int.le_refl _) hbytes (by omega)
  simp only [Int.toNat_natCast] at hrun hK
  have hcells:(madeCells zv.cells (m*i.size)).toList=(List.replicate m zv.cells.toList).flatten:=by
   rw [hisz,← q1,← hzl];exact made_eq zv.cells (by omega) m
  have hrep:=RepVs.repl hzr m
  rw [← hcells] at hrep
  obtain ⟨k,g',k1,k2,k3⟩:=hc.cw.newVec e hrep (by
   intro u hu
   have:u∈(List.replicate m zv.cells.toList).flatten:=by rw [← hcells];simpa using hu
   simp only [List.mem_flatten,List.mem_replicate] at this
   obtain ⟨l,⟨_,rfl⟩,hu⟩:=this
   exact hz1 u (by simpa using hu))
  refine wp_value (w':=w.alloc (.cells (madeCells zv.cells (m*i.size)) e)) (u:=.slice (some ⟨w.heap.size,0,none⟩) m m) ?_ (hn _ _ g' _ _ (hK k) k2 ?_ k3)
  ·simp only [execOp,hrx.1,hry.1,hrun,Sem.run_bind,Result.andThen,Sem.run_pure]
  ·rw [Rep]
   refine ⟨_,m,0,k1,rfl,rfl,Nat.le_refl _,by unfold LMAX;omega,by omega,?_,fun _=>rfl,by unfold CAPM;omega⟩
   refine ⟨_,_,_,heap_alloc_new w _,?_⟩
   simp [size_madeCells,hisz,q1]
 case buildSlice t m parts=>
  simp only [opL] at hq
  cases hud:P.underlying t with
  | none=>simp [hud] at hq
  | some d=>
  cases d<;>try (simp [hud] at hq;done)
  rename_i e
  simp only [hud] at hq
  cases hl:elemsOf r [] (P.cellsOf e) 0 parts.toList with
  | none=>simp [hl] at hq
  | some l=>
  simp only [hl] at hq
  split at hq<;>try contradiction
  rename_i q1
  split at hq<;>try contradiction
  rename_i q2
  split at hq<;>try contradiction
  rename_i q3
  cases hz:zeroCs P e with
  | none=>simp [hz] at hq
  | some z=>
  simp only [hz] at hq
  split at hq<;>try contradiction
  rename_i q4
  have q1:=Nat.eq_of_beq_eq_true q1
  have q2:=Nat.le_of_ble_eq_true q2
  have q3:=Nat.le_of_ble_eq_true q3
  have q4:=Nat.eq_of_beq_eq_true q4
  obtain ⟨ie,zv,hie,hzv,hzr,hzo⟩:=zeroCs_ok (c:=⟨g0,live X h,w⟩) hz
  have hsz:ie.size=P.cellsOf e:=by simp [Program.cellsOf,hie]
  have hzl:zv.cells.size=P.cellsOf e:=by have:=hzr.length;simp at this;omega
  have hzget:∀ u∈(Array.range (m*P.cellsOf e)).map (zv.cells[· % zv.cells.size]!),u.oneCell'=true:=by
   intro u hu
   obtain ⟨j,hj,rfl⟩:=Array.mem_map.1 hu
   have hlt:j % zv.cells.size<zv.cells.size:=Nat.mod_lt _ (by omega)
   rw [getElem!_pos zv.cells _ hlt]
   exact hzo _ (Array.getElem_mem _)
  by_cases hm:m=0
  ·subst hm
   have hl0:l=[]:=List.eq_nil_of_length_eq_zero q1
   subst hl0
   have hps:parts.toList=[]:=by
    cases hh:parts.toList with
    | nil=>rfl
    | cons q qs=>
      rw [hh] at hl
      obtain ⟨i0,x0⟩:=q
      unfold elemsOf at hl
      (repeat' split at hl)<;>simp_all
   have hpe:parts=#[]:=by simpa using hps
   obtain ⟨c1,c2⟩:=hc.cw.alloc (.cells #[] e)
   obtain ⟨q,c3,c4⟩:=c1.newKey
   refine wp_value (u:=.slice (some ⟨w.heap.size,0,none⟩) 0 0) (w':=w.alloc (.cells #[] e)) ?_ (hn _ _ g0 _ _ (hq q) c3 ?_ (c2.trans hc.cw.own c4))
   ·have e0:(Array.map (fun _=>(default:Value)) (Array.range 0))=#[]:=by simp [Array.range]
    simp [execOp,Instr.buildSlice,run_und hud,run_sizeT hie,hpe,Instr.fill,newRow,e0]
   ·simp only [Rep]
    exact ⟨_,0,rfl,by simp,by simp,by omega,by simp,by simp,by simp [RepEs],fun _ _=>.inl rfl⟩
  ·obtain ⟨res,us,e1,e2,e3,e4,e5,e6,e7⟩:=elems_ok hc hg0 hl ((Array.range (m*P.cellsOf e)).map (zv.cells[· % zv.cells.size]!))
    (by
      have:∀ (ps:List (Nat × Operand)) (k:Nat) (l:List (List AV)),elemsOf r [] (P.cellsOf e) k ps=some l→l.length=ps.length:=by
       intro ps
       induction ps with
       | nil=>intro k l hh;simp [elemsOf] at hh;subst hh;rfl
       | cons q qs ih=>
         intro k l hh
         obtain ⟨i0,x0⟩:=q
         unfold elemsOf at hh
         split at hh<;>try contradiction
         split at hh<;>try contradiction
         split at hh<;>try contradiction
         split at hh<;>try contradiction
         split at hh<;>try contradiction
         rename_i l' hr
         cases hh
         simp [ih _ _ hr]
      have:=this _ _ _ hl
      rw [Nat.zero_add,← this,q1];simp) hzget
   have hml:parts.toList.length=m:=by omega
   have hmpos:0<m*P.cellsOf e:=Nat.mul_pos (by omega) (by omega)
   have hres:res.toList=us:=by
    rw [e6]
    simp only [Nat.zero_mul,List.take_zero,List.nil_append,Nat.zero_add,hml]
    rw [List.drop_of_length_le (by simp)]
    simp
   have hrun:=run_buildSlice (P:=P) w t e m (parts.map fun (i,x)=>(i,a.eval x)) res ie zv hud hie hzv (by rw [hsz];omega) (by rw [hsz];omega)
    (by rw [hsz];simpa using e1)
   obtain ⟨c1,c2⟩:=hc.cw.alloc (.cells res e)
   obtain ⟨q,c3,c4⟩:=c1.newKey
   refine wp_value (u:=.slice (some ⟨w.heap.size,0,none⟩) m m) (w':=w.alloc (.cells res e)) ?_ (hn _ _ g0 _ _ (hq q) c3 ?_ (c2.trans hc.cw.own c4))
   ·simp [execOp,hrun]
   ·have hcs:=RepCs.new (t:=e) (us:=res) hc.cw (by rw [hres];exact e4) e7
    simp only [Rep]
    have hml64:m≤65536:=Nat.le_trans (Nat.le_mul_of_pos_right m (by omega)) q3
    refine ⟨_,m,by rw [q1],by omega,by rw [q1];unfold LMAX;omega,by omega,by simp,by simp,?_,fun _ _=>.inl (by rw [q1])⟩
    intro ad ha
    simp at ha;subst ha
    exact RepEs.mono (Step.le c4) _ _ _ _ (RepEs.flat e3 hcs)
 case call cl=>
  unfold opL at hq
  simp only at hq
  split at hq
  ·rename_i f hcal
   cases hl:opnds r [] cl.args.toList with
   | none=>simp [hl] at hq
   | some l=>
   simp only [hl] at hq
   have hrun:(execOp a.eval ⟨dst,.call cl,ty,pos,aft,gd⟩).run P w=(callFunc f (cl.args.map a.eval++#[])).run P w:=
    run_callF rfl ⟨_,hcal,rfl⟩
   exact wp_call (us:=cl.args.map a.eval) hq hc.cw (by simpa using hc.opnds hg0 hl) (by simpa using hrun) hn
  ·rename_i t hcal
   cases hx:opnd r [] (.tmp t) with
   | none=>simp [hx] at hq
   | some x=>
   cases x<;>try (simp [hx] at hq;done)
   rename_i f caps
   simp only [hx] at hq
   cases hl:opnds r [] cl.args.toList with
   | none=>simp [hl] at hq
   | some l=>
   simp only [hl] at hq
   have hr:=hc.opnd hg0 hx
   rw [Rep] at hr
   obtain ⟨us,hfv,hus⟩:=hr
   have hrun:(execOp a.eval ⟨dst,.call cl,ty,pos,aft,gd⟩).run P w=(callFunc f (cl.args.map a.eval++us)).run P w:=
    run_callF rfl ⟨_,hcal,hfv⟩
   exact wp_call hq hc.cw (by simpa using RepVs.append (hc.opnds hg0 hl) hus) hrun hn
  ·rename_i hcal
   split at hq<;>try contradiction
   rename_i t tx hat
   split at hq<;>try contradiction
   rename_i e hud htx
   split at hq<;>try contradiction
   rename_i hk1
   split at hq<;>try contradiction
   rename_i hbt
   split at hq<;>try contradiction
   rename_i z hz
   split at hq<;>try contradiction
   rename_i hzl
   have hk1:=Nat.le_of_ble_eq_true hk1
   have hbt:=Nat.le_of_ble_eq_true hbt
   have hzl:=Nat.eq_of_beq_eq_true hzl
   split at hq<;>try contradiction
   ·rename_i b2 o2 n2 k2 hl
    split at hq<;>try contradiction
    rename_i hk2
    have hk2:=Nat.eq_of_beq_eq_true hk2
    obtain ⟨cs2,ys,hin,⟨hcs,hyk,hyn⟩,⟨hpos,hmax⟩,hK⟩:=hq
    have hrs:=hc.opnds hg0 hl
    simp only [RepVs] at hrs
    obtain ⟨u,rr,e1,h1,u2,rr2,e2,h2,h3⟩:=hrs
    subst e2 h3
    rw [Rep] at h1
    subst h1
    have hrun:=append_arrays (P:=P) (a:=a) (w:=w) (o:=⟨dst,.call cl,ty,pos,aft,gd⟩) (b:=#[]) rfl hcal hat e1
    obtain ⟨i,zv,hi,hzv,hzr,hz1⟩:=zeroCs_ok (c:=⟨g0,live X h,w⟩) hz
    have hisz:i.size=P.cellsOf e:=by simp [Program.cellsOf,hi]
    have hib:i.bytes=P.bytesOf e:=by simp [Program.bytesOf,hi]
    have hzs:zv.cells.size=P.cellsOf e:=by have:=hzr.length;simp at this;omega
    obtain ⟨news,n1,n2',n3,n4,n5⟩:=srcO_ok (P:=P) hc.cw hin h2 hcs hyk hyn
    have hnl:news.length=ys.length*k2:=by rw [n3.length,flat_length n4]
    have hrn:=run_append_grow' (P:=P) (w:=w) (ty:=ty) (i:=i) (z:=zv) (m:=ys.length) (sLen:=0) (sCap:=0) (base:=none) (olds:=[]) hud htx hi hzv n1 (by rw [hisz,← hk2];exact n2' w.drew rfl)
     (by simp [Builtin.firstCells]) (by omega) (by omega) (by omega)
    refine wp_value (hrun _ _ hrn) ?_
    obtain ⟨c1,s1⟩:=hc.cw.drew
    have hcapw:=grownCap_ge w (0+ys.length) 0 e
    have hcapm:=grownCap_le_maxLen w (0+ys.length) 0 e (by unfold maxLen;unfold AMAX at hmax;omega)
    obtain ⟨b',g',k1,k2',k3⟩:=c1.newVecZ (l:=ys.flatten) (us:=[]++news) (Z:=Builtin.zeroCells zv.cells (grownCap w (0+ys.length) 0 e - (0+ys.length))) e
     (RepVs.mono (Step.le s1) _ _ (by simpa using n3)) (by simpa using n5)
    refine hn _ _ g' _ _ (hK b') k2' ?_ (s1.trans hc.cw.own k3)
    rw [Rep]
    refine ⟨_,grownCap w (0+ys.length) 0 e,0,k1,rfl,by rw [Nat.zero_add,hyn];rfl,by omega,by unfold LMAX;unfold AMAX at hmax;omega,by omega,?_,fun _=>rfl,by unfold CAPM;unfold maxLen at hcapm;omega⟩
    refine ⟨_,_,_,heap_alloc_new w.drew _,?_⟩
    simp only [Array.size_append,List.size_toArray,size_zeroCells,hzs,List.length_append,hnl,List.length_nil]
    have e3:ys.length*k2+(grownCap w (0+ys.length) 0 e - (0+ys.length))*k2=grownCap w (0+ys.length) 0 e*k2:=by
     rw [← Nat.add_mul];congr 1;omega
    rw [hk2] at e3 ⊢
    simp only [Nat.zero_add] at e3 ⊢
    omega
   ·rename_i b off n' c k b2 o2 n2 k2 hl
    split at hq<;>try contradiction
    rename_i hk hk2
    have hk:=Nat.eq_of_beq_eq_true hk
    have hk2:=Nat.eq_of_beq_eq_true hk2
    subst hk2
    obtain ⟨cs2,ys,hin2,⟨hcs2,hyk,hyn⟩,hmax,cs,hin,hq⟩:=hq
    have hrs:=hc.opnds hg0 hl
    simp only [RepVs] at hrs
    obtain ⟨u,rr,e1,h1,u2,rr2,e2,h2,h3⟩:=hrs
    subst e2 h3
    have hrun:=append_arrays (P:=P) (a:=a) (w:=w) (o:=⟨dst,.call cl,ty,pos,aft,gd⟩) (b:=#[]) rfl hcal hat e1
    have hsrc:=srcO_ok (P:=P) hc.cw hin2 h2 hcs2 hyk hyn
    subst hyn
    rcases hq with ⟨hroom,hcs,h',hu,hK⟩|⟨hg,hcs,hK⟩
    ·obtain ⟨l1,l2,rfl,rfl⟩:=Upd.split hu
     exact oslc_room hc.cw hud htx hk1 hk hcs hmax hroom hsrc h1 hrun hK hn
    ·exact oslc_grow hc.cw hin hud htx hk1 hbt hz hzl hk hcs hmax hg hsrc h1 hrun hK hn
   ·rename_i y hl
    split at hq<;>try contradiction
    rename_i ys hys
    obtain ⟨hmax,hK⟩:=hq
    have hrs:=hc.opnds hg0 hl
    simp only [RepVs] at hrs
    obtain ⟨u,rr,e1,h1,u2,rr2,e2,h2,h3⟩:=hrs
    subst e2 h3
    rw [Rep] at h1
    subst h1
    have hrun:=append_arrays (P:=P) (a:=a) (w:=w) (o:=⟨dst,.call cl,ty,pos,aft,gd⟩) (b:=#[]) rfl hcal hat e1
    obtain ⟨i,zv,hi,hzv,hzr,hz1⟩:=zeroCs_ok (c:=⟨g0,live X h,w⟩) hz
    have hisz:i.size=P.cellsOf e:=by simp [Program.cellsOf,hi]
    have hib:i.bytes=P.bytesOf e:=by simp [Program.bytesOf,hi]
    have hzs:zv.cells.size=P.cellsOf e:=by have:=hzr.length;simp at this;omega
    obtain ⟨news,n1,n2,n3,n4,n5⟩:=src_ok (c:=⟨g0,live X h,w⟩) hys h2
    have hnl:news.length=ys.length*P.cellsOf e:=by rw [n3.length,flat_length n4]
    by_cases hm:ys=[]
    ·subst hm
     have hn0:news=[]:=List.eq_nil_of_length_eq_zero (by rw [hnl];simp)
     subst hn0
     obtain ⟨q,c1,c2⟩:=hc.cw.newKey
     refine wp_value (w':=w) (hrun _ _ (run_append_room' (w':=w) (m:=0) (i:=i) hud htx hi (by simpa using n1) (by simpa [hisz] using n2 w rfl) (by omega) (by simp) (fun _=>rfl))) ?_
     refine hn _ _ g0 _ w (hK q) c1 ?_ c2
     simp only [Rep]
     exact ⟨none,0,by simp,by simp,by simp,by omega,by simp,by simp,by simp,fun _ _=>.inl rfl⟩
    ·have hpos:0<ys.length:=List.length_pos_iff.2 hm
     have hrn:=run_append_grow' (P:=P) (w:=w) (ty:=ty) (i:=i) (z:=zv) (m:=ys.length) (sLen:=0) (sCap:=0) (base:=none) (olds:=[]) hud htx hi hzv n1 (by rw [hisz];exact n2 w.drew rfl)
      (by simp [Builtin.firstCells]) (by omega) (by omega) (by omega)
     refine wp_value (hrun _ _ hrn) ?_
     have hfin:=grown_ok (xs:=ys) (us:=news) (k:=P.cellsOf e) (e:=e)
      (cap:=grownCap w (0+ys.length) 0 e) (Z:=Builtin.zeroCells zv.cells (grownCap w (0+ys.length) 0 e - (0+ys.length)))
      hc.cw n3 n4 n5 (by omega) hmax (by have:=grownCap_ge w (0+ys.length) 0 e;omega) ?_ hK hn
     ·simpa using hfin
     ·have:=grownCap_ge w (0+ys.length) 0 e
      rw [size_zeroCells,hzs,hnl,← Nat.add_mul]
      congr 1;omega
   ·rename_i y hl
    split at hq<;>try contradiction
    rename_i ys hys
    obtain ⟨⟨hpos,hmax⟩,hK⟩:=hq
    have hrs:=hc.opnds hg0 hl
    simp only [RepVs] at hrs
    obtain ⟨u,rr,e1,h1,u2,rr2,e2,h2,h3⟩:=hrs
    subst e2 h3
    rw [Rep] at h1
    subst h1
    have hrun:=append_arrays (P:=P) (a:=a) (w:=w) (o:=⟨dst,.call cl,ty,pos,aft,gd⟩) (b:=#[]) rfl hcal hat e1
    obtain ⟨i,zv,hi,hzv,hzr,hz1⟩:=zeroCs_ok (c:=⟨g0,live X h,w⟩) hz
    have hisz:i.size=P.cellsOf e:=by simp [Program.cellsOf,hi]
    have hib:i.bytes=P.bytesOf e:=by simp [Program.bytesOf,hi]
    have hzs:zv.cells.size=P.cellsOf e:=by have:=hzr.length;simp at this;omega
    obtain ⟨news,n1,n2,n3,n4,n5⟩:=src_ok (c:=⟨g0,live X h,w⟩) hys h2
    have hnl:news.length=ys.length*P.cellsOf e:=by rw [n3.length,flat_length n4]
    have hrn:=run_append_grow' (P:=P) (w:=w) (ty:=ty) (i:=i) (z:=zv) (m:=ys.length) (sLen:=0) (sCap:=0) (base:=none) (olds:=[]) hud htx hi hzv n1 (by rw [hisz];exact n2 w.drew rfl)
     (by simp [Builtin.firstCells]) (by omega) (by omega) (by omega)
    refine wp_value (hrun _ _ hrn) ?_
    obtain ⟨c1,s1⟩:=hc.cw.drew
    have hcapw:=grownCap_ge w (0+ys.length) 0 e
    obtain ⟨b',g',k1,k2,k3⟩:=c1.newVecZ (l:=ys.flatten) (us:=[]++news) (Z:=Builtin.zeroCells zv.cells (grownCap w (0+ys.length) 0 e - (0+ys.length))) e
     (RepVs.mono (Step.le s1) _ _ (by simpa using n3)) (by simpa using n5)
    refine hn _ _ g' _ _ (hK b') k2 ?_ (s1.trans hc.cw.own k3)
    rw [Rep]
    have hcapm:=grownCap_le_maxLen w (0+ys.length) 0 e (by unfold maxLen;unfold AMAX at hmax;omega)
    refine ⟨_,grownCap w (0+ys.length) 0 e,0,k1,rfl,by rw [Nat.zero_add];rfl,by omega,by unfold LMAX;unfold AMAX at hmax;omega,hk1,?_,fun _=>rfl,by unfold CAPM;unfold maxLen at hcapm;omega⟩
    refine ⟨_,_,_,heap_alloc_new w.drew _,?_⟩
    simp only [Array.size_append,List.size_toArray,size_zeroCells,hzs,List.length_append,hnl,List.length_nil]
    have e3:ys.length*P.cellsOf e+(grownCap w (0+ys.length) 0 e - (0+ys.length))*P.cellsOf e=grownCap w (0+ys.length) 0 e*P.cellsOf e:=by
     rw [← Nat.add_mul];congr 1;omega
    simp only [Nat.zero_add] at e3 ⊢
    omega
   ·rename_i b n' k y hl
    split at hq<;>try contradiction
    rename_i hk
    have hk:=Nat.eq_of_beq_eq_true hk
    split at hq<;>try contradiction
    rename_i ys hys
    obtain ⟨cs,hin,⟨hcs,hmax⟩,hK⟩:=hq
    have hrs:=hc.opnds hg0 hl
    simp only [RepVs] at hrs
    obtain ⟨u,rr,e1,h1,u2,rr2,e2,h2,h3⟩:=hrs
    subst e2 h3
    have hrun:=append_arrays (P:=P) (a:=a) (w:=w) (o:=⟨dst,.call cl,ty,pos,aft,gd⟩) (b:=#[]) rfl hcal hat e1
    obtain ⟨l1,l2,rfl⟩:=List.append_of_mem hin
    refine own_append hc.cw hud htx hk1 hbt hz hzl hk hys hcs hmax h1 h2 hrun (fun b'=>?_) hn
    obtain ⟨h',hu,hK⟩:=hK b'
    obtain ⟨m1,m2,e1,rfl⟩:=Upd.split hu
    obtain ⟨rfl,rfl⟩:=split_uniq hc.cw.nodup e1
    exact hK
   ·rename_i k q xs b2 o2 n2 k2 hl
    split at hq<;>try contradiction
    rename_i hk hk2
    have hk:=Nat.eq_of_beq_eq_true hk
    have hk2:=Nat.eq_of_beq_eq_true hk2
    subst hk2
    obtain ⟨cs,ys,hin,⟨hcs,hyk,hyn⟩,hmax,hK⟩:=hq
    have hrs:=hc.opnds hg0 hl
    simp only [RepVs] at hrs
    obtain ⟨u,rr,e1,h1,u2,rr2,e2,h2,h3⟩:=hrs
    subst e2 h3
    have hrun:=append_arrays (P:=P) (a:=a) (w:=w) (o:=⟨dst,.call cl,ty,pos,aft,gd⟩) (b:=#[]) rfl hcal hat e1
    obtain ⟨h',hu,_⟩:=hK 0
    have hsrc:=srcO_ok (P:=P) hc.cw hin h2 hcs hyk hyn
    obtain ⟨l1,l2,rfl,_⟩:=Upd.split hu
    exact append_okS hc.cw hud htx hk1 hbt hz hzl hk hsrc hmax h1 hrun hK hn
   ·rename_i k q xs y hl
    split at hq<;>try contradiction
    rename_i hk
    have hk:=Nat.eq_of_beq_eq_true hk
    split at hq<;>try contradiction
    rename_i ys hys
    obtain ⟨hmax,hK⟩:=hq
    have hrs:=hc.opnds hg0 hl
    simp only [RepVs] at hrs
    obtain ⟨u,rr,e1,h1,u2,rr2,e2,h2,h3⟩:=hrs
    subst e2 h3
    have hrun:=append_arrays (P:=P) (a:=a) (w:=w) (o:=⟨dst,.call cl,ty,pos,aft,gd⟩) (b:=#[]) rfl hcal hat e1
    obtain ⟨h',hu,_⟩:=hK 0
    obtain ⟨l1,l2,rfl,_⟩:=Upd.split hu
    exact append_ok hc.cw hud htx hk1 hbt hz hzl hk hys hmax h1 h2 hrun hK hn
   ·rename_i e hud htx
    split at hq<;>try contradiction
    rename_i kn hkn
    split at hq<;>try contradiction
    rename_i hk1
    split at hq<;>try contradiction
    rename_i hbt
    split at hq<;>try contradiction
    rename_i z hz
    split at hq<;>try contradiction
    rename_i hzl
    split at hq<;>try contradiction
    rename_i b off n' c k kq m hl
    split at hq<;>try contradiction
    rename_i hk
    have hk1:=Nat.le_of_ble_eq_true hk1
    have hbt:=Nat.le_of_ble_eq_true hbt
    have hzl:=Nat.eq_of_beq_eq_true hzl
    have hk:=Nat.eq_of_beq_eq_true hk
    obtain ⟨cs,hin,⟨hm0,hg,hmax,hcs⟩,hK⟩:=hq
    have hrs:=hc.opnds hg0 hl
    simp only [RepVs] at hrs
    obtain ⟨u,rr,e1,h1,u2,rr2,e2,h2,h3⟩:=hrs
    subst e2 h3
    rw [Rep] at h2
    obtain ⟨rfl,_⟩:=h2
    have hrun:=append_arrays (P:=P) (a:=a) (w:=w) (o:=⟨dst,.call cl,ty,pos,aft,gd⟩) (b:=#[]) rfl hcal hat e1
    obtain ⟨m,rfl⟩:=Int.eq_ofNat_of_zero_le (Int.le_of_lt hm0)
    exact oslc_zeros hc.cw hin hud hkn hk1 hbt hz hzl hk hcs (by omega) (by omega) (by omega) h1 hrun hK hn
  ·rename_i hcal
   split at hq<;>try contradiction
   rename_i t tx hat
   split at hq<;>try contradiction
   rename_i e hud
   split at hq<;>try contradiction
   ·rename_i b o m k b2 o2 n2 k2 hl
    split at hq<;>try contradiction
    rename_i hk hk2 hk1
    have hk:=Nat.eq_of_beq_eq_true hk
    have hk2:=Nat.eq_of_beq_eq_true hk2
    have hk1:=Nat.le_of_ble_eq_true hk1
    subst hk2
    obtain ⟨cs2,ys,hin,⟨hcs,hyk,hyn⟩,cs,h',hu,⟨hpos,hle⟩,hK⟩:=hq
    have hrs:=hc.opnds hg0 hl
    simp only [RepVs] at hrs
    obtain ⟨u,rr,e1,h1,u2,rr2,e2,h2,h3⟩:=hrs
    subst e2 h3
    have h2':∃ u2',Rep ⟨g0,live X h,w⟩ (.osl b2 o2 (min n2 m) k2) u2'∧(∀ w',(Builtin.lenOf u2).run P w'=.ok n2 w')∧(∀ c j,Builtin.firstCells c j u2=Builtin.firstCells c j u2'):=by
     rw [Rep] at h2
     obtain ⟨p,cap,o',x1,x2,rfl,x3,x4,x5,x6,x7,x8⟩:=h2
     refine ⟨.slice (some ⟨p.block,p.off+o',none⟩) (min n2 m) cap,?_,fun w'=>by simp [Builtin.lenOf],fun c j=>rfl⟩
     rw [Rep]
     exact ⟨p,cap,o',x1,x2,rfl,by omega,by omega,x5,x6,x7,x8⟩
    obtain ⟨u2',r1,r2,r3⟩:=h2'
    obtain ⟨news,n1,n3,n4,n5,n6⟩:=srcO_ok (P:=P) hc.cw hin r1 hcs hyk hyn
    exact copy_ok hc hud hk hk1 hu h1 hcal hat e1 hle (by omega) (by rw [hyn];exact hK) hn (n:=n2) hyn r2 (fun w' hw=>by rw [r3,← hk];exact n3 w' hw) n4 n6
   ·rename_i b o m k b2 o2 n2 c2 k2 hl
    split at hq<;>try contradiction
    rename_i hk hk2 hk1
    have hk:=Nat.eq_of_beq_eq_true hk
    have hk2:=Nat.eq_of_beq_eq_true hk2
    have hk1:=Nat.le_of_ble_eq_true hk1
    subst hk2
    obtain ⟨cs2,ys,hin,⟨hcs,hyk,hyn⟩,cs,h',hu,⟨hpos,hle⟩,hK⟩:=hq
    have hrs:=hc.opnds hg0 hl
    simp only [RepVs] at hrs
    obtain ⟨u,rr,e1,h1,u2,rr2,e2,h2,h3⟩:=hrs
    subst e2 h3
    obtain ⟨r2,u2',r1,r3⟩:=oslc_src (P:=P) (m:=m) h2
    obtain ⟨news,n1,n3,n4,n5,n6⟩:=srcO_ok (P:=P) hc.cw hin r1 hcs hyk hyn
    exact copy_ok hc hud hk hk1 hu h1 hcal hat e1 hle (by omega) (by rw [hyn];exact hK) hn (n:=n2) hyn r2 (fun w' hw=>by rw [r3,← hk];exact n3 w' hw) n4 n6
   ·rename_i b o m c k b2 o2 n2 c2 k2 hl
    split at hq<;>try contradiction
    rename_i hk hk2 hk1
    have hk:=Nat.eq_of_beq_eq_true hk
    have hk2:=Nat.eq_of_beq_eq_true hk2
    have hk1:=Nat.le_of_ble_eq_true hk1
    subst hk2
    obtain ⟨cs2,ys,hin,⟨hcs,hyk,hyn⟩,cs,h',hu,⟨hpos,hle⟩,hK⟩:=hq
    have hrs:=hc.opnds hg0 hl
    simp only [RepVs] at hrs
    obtain ⟨u,rr,e1,h1,u2,rr2,e2,h2,h3⟩:=hrs
    subst e2 h3
    obtain ⟨r2,u2',r1,r3⟩:=oslc_src (P:=P) (m:=m) h2
    obtain ⟨news,n1,n3,n4,n5,n6⟩:=srcO_ok (P:=P) hc.cw hin r1 hcs hyk hyn
    exact copyC_ok hc hud hk hk1 hu h1 hcal hat e1 hle (by rw [flat_length hyk];exact Nat.mul_le_mul_right _ (by omega)) (by rw [hyn];exact hK) hn (n:=n2) hyn r2 (fun w' hw=>by rw [r3,← hk];exact n3 w' hw) n4 n6
   ·rename_i b o m c k b2 o2 n2 k2 hl
    split at hq<;>try contradiction
    rename_i hk hk2 hk1
    have hk:=Nat.eq_of_beq_eq_true hk
    have hk2:=Nat.eq_of_beq_eq_true hk2
    have hk1:=Nat.le_of_ble_eq_true hk1
    subst hk2
    obtain ⟨cs2,ys,hin,⟨hcs,hyk,hyn⟩,cs,h',hu,⟨hpos,hle⟩,hK⟩:=hq
    have hrs:=hc.opnds hg0 hl
    simp only [RepVs] at hrs
    obtain ⟨u,rr,e1,h1,u2,rr2,e2,h2,h3⟩:=hrs
    subst e2 h3
    obtain ⟨r2,u2',r1,r3⟩:=osl_src (P:=P) (m:=m) h2
    obtain ⟨news,n1,n3,n4,n5,n6⟩:=srcO_ok (P:=P) hc.cw hin r1 hcs hyk hyn
    exact copyC_ok hc hud hk hk1 hu h1 hcal hat e1 hle (by rw [flat_length hyk];exact Nat.mul_le_mul_right _ (by omega)) (by rw [hyn];exact hK) hn (n:=n2) hyn r2 (fun w' hw=>by rw [r3,← hk];exact n3 w' hw) n4 n6
   ·rename_i b o m k y _ _ hl
    split at hq<;>try contradiction
    rename_i hk hk1
    have hk:=Nat.eq_of_beq_eq_true hk
    have hk1:=Nat.le_of_ble_eq_true hk1
    split at hq<;>try contradiction
    rename_i ys hys
    obtain ⟨cs,h',hu,⟨hpos,hle2,hle⟩,hK⟩:=hq
    have hrs:=hc.opnds hg0 hl
    simp only [RepVs] at hrs
    obtain ⟨u,rr,e1,h1,u2,rr2,e2,h2,h3⟩:=hrs
    subst e2 h3
    obtain ⟨news,n1,n2,n3,n4,n5⟩:=src_ok (P:=P) (c:=⟨g0,live X h,w⟩) hys h2
    exact copy_ok hc hud hk hk1 hu h1 hcal hat e1 hle (by omega) hK hn (n:=ys.length) (by omega) n1 (fun w' hw=>by rw [← hk];exact n2 w' hw) n3 n5
  ·rename_i hcal
   split at hq<;>try contradiction
   rename_i t hat
   split at hq<;>try contradiction
   rename_i e hud
   split at hq<;>try contradiction
   rename_i z hz
   split at hq<;>try contradiction
   rename_i b o m k hl
   split at hq<;>try contradiction
   rename_i hzk
   have hzk:=Nat.eq_of_beq_eq_true hzk
   obtain ⟨cs,h',hu,⟨hpos,hle⟩,hK⟩:=hq
   obtain ⟨l1,l2,rfl,rfl⟩:=Upd.split hu
   have hrs:=hc.opnds hg0 hl
   simp only [RepVs] at hrs
   obtain ⟨u,rr,e1,h1,e2⟩:=hrs
   subst e2
   obtain ⟨p,cap,x1,x2,rfl,x3,x4,x5,x6,_⟩:=h1.oslE hpos
   simp only at x1
   obtain ⟨i,zv,hi,hzv,hzr,hz1⟩:=zeroCs_ok (c:=⟨g0,live X (l1++(b,.vec cs)::l2),w⟩) hz
   have hzs:zv.cells.size=k:=by have:=hzr.length;simp at this;omega
   have hrep:=RepVs.repl hzr m
   have hrl:(repC m z).length=m*k:=by unfold repC;simp [hzk]
   have hul:(List.replicate m zv.cells.toList).flatten.length=m*k:=by simp [hzs]
   obtain ⟨q,cc,tt,p1,p2,p3,p4,p5,p6⟩:=vec_store (o:=o) hc.cw (by omega) hrep (by
    intro u hu
    simp only [List.mem_flatten,List.mem_replicate] at hu
    obtain ⟨l,⟨_,rfl⟩,hu⟩:=hu
    exact hz1 u (by simpa using hu))
   rw [x1] at p1;cases p1
   refine wp_value (u:=.tuple #[]) (w':=w.setCells p.block (p.off+o) (List.replicate m zv.cells.toList).flatten) ?_ (hn (.tup []) _ g0 _ _ hK p5 (by rw [Rep];exact ⟨#[],rfl,by simp [RepVs]⟩) p6)
   have h1:cl.args.map a.eval=#[.slice (some ⟨p.block,p.off+o,none⟩) m cap]:=by rw [← Array.toList_inj];simpa using e1
   have h2:cl.argTypes=#[t]:=by rw [← Array.toList_inj];simpa using hat
   have hst:=run_storeCells_cells (P:=P) p.block (p.off+o) (List.replicate m zv.cells.toList).flatten 0 w
    (fun j hj=>by
      simp only [Nat.add_zero]
      rw [cell_of_row w p.block (p.off+o+j) cc tt _ p3]
      have:p.off+o+j<cc.size:=by omega
      simp [this])
    (fun j hj=>frozen_of_row w p.block _ cc tt p3) (fun v hv=>by
      simp only [List.mem_flatten,List.mem_replicate] at hv
      obtain ⟨l,⟨_,rfl⟩,hu⟩:=hv
      exact hz1 v (by simpa using hu))
   simp only [Nat.add_zero] at hst
   have hzc:(Builtin.zeroCells zv.cells m).toList=(List.replicate m zv.cells.toList).flatten:=made_eq zv.cells (by omega) m
   obtain ⟨m',rfl⟩:∃ m',m=m'+1:=⟨m - 1,by omega⟩
   have hzr':(zeroValue e).run P w=.ok zv w:=by simp [zeroValue,typeInfo,hi,hzv]
   have hcl:(Builtin.clear_ #[t] ty #[.slice (some ⟨p.block,p.off+o,none⟩) (m'+1) cap]).run P w=.ok (.tuple #[]) (w.setCells p.block (p.off+o) (List.replicate (m'+1) zv.cells.toList).flatten):=by
    simp only [Builtin.clear_,List.getElem?_toArray,List.getElem?_cons_zero,Sem.run_bind,run_und hud,Result.andThen_ok,hzr',hzc,hst,Sem.run_pure]
   simp [execOp,resolve,hcal,invoke,builtin,h1,h2,hcl]
  ·exact hq.elim
 all_goals (simp [opL] at hq)
theorem opO_ok {o:Oper} {cl:Call} {K:AV→Heap→Prop} {next:Act→World→Prop} {Q:Exit→Act→World→Prop} (hop:o.op=.call cl)
  (hq:opO P r h K cl) (hc:Conc n X g0 r h a w) (hn:NextL X g0 h w K o.dst a next):o.wp P a w next Q:=by
 have hg0:holdsC a []:=fun e he=>by cases he
 obtain ⟨dst,op,ty,pos,aft,gd⟩:=o
 simp only at hop hn
 subst hop
 unfold opO at hq
 split at hq<;>try contradiction
 rename_i hcal
 split at hq<;>try contradiction
 rename_i t tx hat
 split at hq<;>try contradiction
 rename_i e hud htx
 split at hq<;>try contradiction
 rename_i hk1
 split at hq<;>try contradiction
 rename_i hbt
 split at hq<;>try contradiction
 rename_i z hz
 split at hq<;>try contradiction
 rename_i hzl
 have hk1:=Nat.le_of_ble_eq_true hk1
 have hbt:=Nat.le_of_ble_eq_true hbt
 have hzl:=Nat.eq_of_beq_eq_true hzl
 split at hq<;>try contradiction
 ·rename_i y hl
  split at hq<;>try contradiction
  rename_i ys hys
  obtain ⟨⟨hpos,hmax⟩,hK⟩:=hq
  have hrs:=hc.opnds hg0 hl
  simp only [RepVs] at hrs
  obtain ⟨u,rr,e1,h1,u2,rr2,e2,h2,h3⟩:=hrs
  subst e2 h3
  rw [Rep] at h1
  subst h1
  have hrun:=append_arrays (P:=P) (a:=a) (w:=w) (o:=⟨dst,.call cl,ty,pos,aft,gd⟩) (b:=#[]) rfl hcal hat e1
  obtain ⟨i,zv,hi,hzv,hzr,hz1⟩:=zeroCs_ok (c:=⟨g0,live X h,w⟩) hz
  have hisz:i.size=P.cellsOf e:=by simp [Program.cellsOf,hi]
  have hib:i.bytes=P.bytesOf e:=by simp [Program.bytesOf,hi]
  have hzs:zv.cells.size=P.cellsOf e:=by have:=hzr.length;simp at this;omega
  obtain ⟨news,n1,n2,n3,n4,n5⟩:=src_ok (c:=⟨g0,live X h,w⟩) hys h2
  have hnl:news.length=ys.length*P.cellsOf e:=by rw [n3.length,flat_length n4]
  have hrn:=run_append_grow' (P:=P) (w:=w) (ty:=ty) (i:=i) (z:=zv) (m:=ys.length) (sLen:=0) (sCap:=0) (base:=none) (olds:=[]) hud htx hi hzv n1 (by rw [hisz];exact n2 w.drew rfl)
   (by simp [Builtin.firstCells]) (by omega) (by omega) (by omega)
  refine wp_value (hrun _ _ hrn) ?_
  obtain ⟨c1,s1⟩:=hc.cw.drew
  have hcapw:=grownCap_ge w (0+ys.length) 0 e
  obtain ⟨b',g',k1,k2,k3⟩:=c1.newVecZ (l:=ys.flatten) (us:=[]++news) (Z:=Builtin.zeroCells zv.cells (grownCap w (0+ys.length) 0 e - (0+ys.length))) e
   (RepVs.mono (Step.le s1) _ _ (by simpa using n3)) (by simpa using n5)
  refine hn _ _ g' _ _ (hK b') k2 ?_ (s1.trans hc.cw.own k3)
  rw [Rep]
  have hcapm:=grownCap_le_maxLen w (0+ys.length) 0 e (by unfold maxLen;unfold AMAX at hmax;omega)
  refine ⟨_,grownCap w (0+ys.length) 0 e,0,k1,rfl,by rw [Nat.zero_add];rfl,by omega,by unfold LMAX;unfold AMAX at hmax;omega,hk1,?_,fun _=>rfl,by unfold CAPM;unfold maxLen at hcapm;omega⟩
  refine ⟨_,_,_,heap_alloc_new w.drew _,?_⟩
  simp only [Array.size_append,List.size_toArray,size_zeroCells,hzs,List.length_append,hnl,List.length_nil]
  have e3:ys.length*P.cellsOf e+(grownCap w (0+ys.length) 0 e - (0+ys.length))*P.cellsOf e=grownCap w (0+ys.length) 0 e*P.cellsOf e:=by
   rw [← Nat.add_mul];congr 1;omega
  simp only [Nat.zero_add] at e3 ⊢
  omega
 ·rename_i b off k y hl
  split at hq<;>try contradiction
  rename_i hk
  have hk:=Nat.eq_of_beq_eq_true hk
  split at hq<;>try contradiction
  rename_i ys hys
  obtain ⟨⟨⟨cs,hin⟩,hpos,hmax⟩,hK⟩:=hq
  have hrs:=hc.opnds hg0 hl
  simp only [RepVs] at hrs
  obtain ⟨u,rr,e1,h1,u2,rr2,e2,h2,h3⟩:=hrs
  subst e2 h3
  have hrun:=append_arrays (P:=P) (a:=a) (w:=w) (o:=⟨dst,.call cl,ty,pos,aft,gd⟩) (b:=#[]) rfl hcal hat e1
  refine oslc_grow hc.cw hin hud htx hk1 hbt hz hzl hk (.inl rfl) (by omega) (by omega) (src_ok (c:=⟨g0,live X h,w⟩) hys h2) h1 hrun ?_ hn
  intro q
  have:=hK q
  simpa using this
theorem opB_ok {o:Oper} {t:TypeId} {m:Nat} {parts:Array (Nat × Operand)} {K:AV→Heap→Prop} {next:Act→World→Prop} {Q:Exit→Act→World→Prop} (hop:o.op=.buildSlice t m parts)
  (hq:opB P r h K t m parts) (hc:Conc n X g0 r h a w) (hn:NextL X g0 h w K o.dst a next):o.wp P a w next Q:=by
 have hg0:holdsC a []:=fun e he=>by cases he
 obtain ⟨dst,op,ty,pos,aft,gd⟩:=o
 simp only at hop hn
 subst hop
 unfold opB at hq
 split at hq<;>try contradiction
 rename_i e hud
 split at hq<;>try contradiction
 rename_i l hl
 split at hq<;>try contradiction
 rename_i q1 q2 q3
 split at hq<;>try contradiction
 rename_i z hz
 split at hq<;>try contradiction
 rename_i q4
 have q1:=Nat.eq_of_beq_eq_true q1
 have q2:=Nat.le_of_ble_eq_true q2
 have q3:=Nat.le_of_ble_eq_true q3
 have q4:=Nat.eq_of_beq_eq_true q4
 obtain ⟨ie,zv,hie,hzv,hzr,hzo⟩:=zeroCs_ok (c:=⟨g0,live X h,w⟩) hz
 have hsz:ie.size=P.cellsOf e:=by simp [Program.cellsOf,hie]
 have hzl:zv.cells.size=P.cellsOf e:=by have:=hzr.length;simp at this;omega
 have hzget:∀ u∈(Array.range (m*P.cellsOf e)).map (zv.cells[· % zv.cells.size]!),u.oneCell'=true:=by
  intro u hu
  obtain ⟨j,hj,rfl⟩:=Array.mem_map.1 hu
  have hlt:j % zv.cells.size<zv.cells.size:=Nat.mod_lt _ (by omega)
  rw [getElem!_pos zv.cells _ hlt]
  exact hzo _ (Array.getElem_mem _)
 by_cases hm:m=0
 ·subst hm
  have hl0:l=[]:=List.eq_nil_of_length_eq_zero q1
  subst hl0
  have hps:parts.toList=[]:=by
   cases hh:parts.toList with
   | nil=>rfl
   | cons q qs=>
     rw [hh] at hl
     obtain ⟨i0,x0⟩:=q
     unfold elemsOf at hl
     (repeat' split at hl)<;>simp_all
  have hpe:parts=#[]:=by simpa using hps
  obtain ⟨k,g',k1,k2,k3⟩:=hc.cw.newVec (l:=[]) (us:=#[]) e (by simp [RepVs]) (by simp)
  refine wp_value (u:=.slice (some ⟨w.heap.size,0,none⟩) 0 0) (w':=w.alloc (.cells #[] e)) ?_ (hn _ _ g' _ _ (hq k) k2 ?_ k3)
  ·have e0:(Array.map (fun _=>(default:Value)) (Array.range 0))=#[]:=by simp [Array.range]
   simp [execOp,Instr.buildSlice,run_und hud,run_sizeT hie,hpe,Instr.fill,newRow,e0]
  ·rw [Rep]
   exact ⟨_,k1,rfl,rfl,Nat.le_refl _,by unfold LMAX;omega,by omega,⟨_,_,_,heap_alloc_new w _,by simp⟩,by unfold CAPM;omega⟩
 ·replace hq:∀ b,K (.osl b 0 m (P.cellsOf e)) ((b,.vec l.flatten)::h):=by
   cases m with
   | zero=>exact absurd rfl hm
   | succ n=>exact hq
  obtain ⟨res,us,e1,e2,e3,e4,e5,e6,e7⟩:=elems_ok hc hg0 hl ((Array.range (m*P.cellsOf e)).map (zv.cells[· % zv.cells.size]!))
   (by
     have:∀ (ps:List (Nat × Operand)) (k:Nat) (l:List (List AV)),elemsOf r [] (P.cellsOf e) k ps=some l→l.length=ps.length:=by
      intro ps
      induction ps with
      | nil=>intro k l hh;simp [elemsOf] at hh;subst hh;rfl
      | cons q qs ih=>
        intro k l hh
        obtain ⟨i0,x0⟩:=q
        unfold elemsOf at hh
        split at hh<;>try contradiction
        split at hh<;>try contradiction
        split at hh<;>try contradiction
        split at hh<;>try contradiction
        split at hh<;>try contradiction
        rename_i l' hr
        cases hh
        simp [ih _ _ hr]
     have:=this _ _ _ hl
     rw [Nat.zero_add,← this,q1];simp) hzget
  have hml:parts.toList.length=m:=by omega
  have hmpos:0<m*P.cellsOf e:=Nat.mul_pos (by omega) (by omega)
  have hres:res.toList=us:=by
   rw [e6]
   simp only [Nat.zero_mul,List.take_zero,List.nil_append,Nat.zero_add,hml]
   rw [List.drop_of_length_le (by simp)]
   simp
  have hrun:=run_buildSlice (P:=P) w t e m (parts.map fun (i,x)=>(i,a.eval x)) res ie zv hud hie hzv (by rw [hsz];omega) (by rw [hsz];omega)
   (by rw [hsz];simpa using e1)
  obtain ⟨k,g',k1,k2,k3⟩:=hc.cw.newVec (l:=l.flatten) (us:=res) e (by rw [hres];exact e4) e7
  refine wp_value (u:=.slice (some ⟨w.heap.size,0,none⟩) m m) (w':=w.alloc (.cells res e)) ?_ (hn _ _ g' _ _ (hq k) k2 ?_ k3)
  ·simp [execOp,hrun]
  ·rw [Rep]
   have hml64:m≤65536:=Nat.le_trans (Nat.le_mul_of_pos_right m (by omega)) q3
   refine ⟨_,m,0,k1,rfl,rfl,Nat.le_refl _,by unfold LMAX;omega,by omega,?_,fun _=>rfl,by unfold CAPM;omega⟩
   refine ⟨_,_,_,heap_alloc_new w _,?_⟩
   have:=e4.length
   have h2:res.size=l.flatten.length:=by rw [← Array.length_toList,hres];omega
   have h3:=flat_length e3
   simp only [Nat.zero_add]
   rw [h2,h3,q1]
   omega
theorem opX_ok {own own2:List Nat} {o:Oper} {K:AV→Heap→Prop} {next:Act→World→Prop} {Q:Exit→Act→World→Prop}
  (hq:opX P own own2 o.dst r h K o.op) (hc:Conc n X g0 r h a w) (hn:NextL X g0 h w K o.dst a next):o.wp P a w next Q:=by
 unfold opX at hq
 split at hq
 ·rename_i cl d e1 e2
  split at hq
  ·exact opO_ok e1 hq hc hn
  ·rw [← e1] at hq;exact opL_ok hq hc hn
 ·rename_i t m parts d e1 e2
  split at hq
  ·exact opB_ok e1 hq hc hn
  ·rw [← e1] at hq;exact opL_ok hq hc hn
 ·exact opL_ok hq hc hn
end Go.Abs
/-
 The abstract layer,part J: the evaluator says what the code does.
-/
namespace Go.Abs
open Go
variable {P:Program} {n:Nat} {X:Nat→Prop} {g0:Gh} {r:Regs} {h:Heap} {a:Act} {w:World}
theorem memT_false {d:Nat}:∀ {g:G},notIn.memT g d=false→∀ e∈g,e.1≠d
 | [],_,e,he=>by cases he
 | (t,b,w)::g,hm,e,he=>by
   unfold notIn.memT at hm
   split at hm
   ·cases hm
   ·rename_i ht
    rcases List.mem_cons.1 he with rfl|he
    ·intro e;subst e;rw [Nat.beq_refl] at ht;cases ht
    ·exact memT_false hm e he
theorem notIn_cons {t:Nat} {gg:G} {v:AV} {d:Nat} (hn:notIn ((t,gg,v)::r) d=true):(∀ e∈gg,e.1≠d)∧notIn r d=true:=by
 cases gg with
 | nil=>exact ⟨by simp,hn⟩
 | cons e g=>
   unfold notIn at hn
   split at hn
   ·cases hn
   ·rename_i hm
    exact ⟨memT_false hm,hn⟩
theorem notIn_look {d:Nat}:∀ {r:Regs} {t:Nat} {gg:G} {v:AV},notIn r d=true→lookR r t=some (gg,v)→∀ e∈gg,e.1≠d
 | [],t,gg,v,_,h=>by cases h
 | (t',g',v')::r,t,gg,v,hn,h=>by
   obtain ⟨h1,h2⟩:=notIn_cons hn
   unfold lookR at h
   split at h
   ·cases h;exact h1
   ·exact notIn_look h2 h
theorem holdsC_put {d:Nat} {u:Value} {gg:G} (hd:∀ e∈gg,e.1≠d):holdsC (a.put (some d) u) gg↔holdsC a gg:=by
 unfold holdsC
 constructor
 ·intro hh e he
  have:=hh e he
  simpa [Act.put,Array.getElem?_setIfInBounds_ne (Ne.symm (hd e he))] using this
 ·intro hh e he
  have:=hh e he
  simpa [Act.put,Array.getElem?_setIfInBounds_ne (Ne.symm (hd e he))] using this
theorem Conc.step {g':Gh} {h':Heap} {w':World} (hc:Conc n X g0 r h a w) (hcw:CW X g' h' w') (hst:Step X g0 h w g' h' w'):Conc n X g' r h' a w':=
 ⟨hcw,fun t gg v hl=>⟨fun hh=>let ⟨h1,u,h2,h3⟩:=(hc.regs t gg v hl).1 hh;⟨h1,u,h2,Rep.mono (Step.le hst) _ _ h3⟩,(hc.regs t gg v hl).2⟩,hc.defers,hc.size⟩
theorem Conc.put {g':Gh} {h':Heap} {w':World} (hc:Conc n X g0 r h a w) (hcw:CW X g' h' w') (hst:Step X g0 h w g' h' w') {d:Nat} (hd:d<n) {gg:G} {v:AV} {u:Value}
  (hni:notIn ((d,gg,v)::r) d=true) (h1:holdsC a gg→(∀ e∈gg,e.2.1=e.2.2)∧Rep ⟨g',live X h',w'⟩ v u) (h2:¬ holdsC a gg→u=undef) :
  Conc n X g' ((d,gg,v)::r) h' (a.put (some d) u) w':=by
 obtain ⟨n1,n2⟩:=notIn_cons hni
 have hget:(a.put (some d) u).tmps[d]?=some u:=by
  have:=hc.size
  simp [Act.put,Array.getElem?_setIfInBounds,show d<a.tmps.size from by omega]
 refine ⟨hcw,?_,hc.defers,by simpa [Act.put] using hc.size⟩
 intro t gg' v' hl
 unfold lookR at hl
 split at hl
 ·rename_i ht
  have ht:=Nat.eq_of_beq_eq_true ht
  subst ht
  cases hl
  rw [holdsC_put n1,hget]
  exact ⟨fun hh=>⟨(h1 hh).1,u,rfl,(h1 hh).2⟩,fun hh=>by rw [h2 hh]⟩
 ·rename_i ht
  have hne:t≠d:=by intro e;subst e;rw [Nat.beq_refl] at ht;cases ht
  rw [holdsC_put (notIn_look n2 hl)]
  have hg:(a.put (some d) u).tmps[t]?=a.tmps[t]?:=by simp [Act.put,Array.getElem?_setIfInBounds_ne (Ne.symm hne)]
  rw [hg]
  exact (hc.step hcw hst).regs t gg' v' hl
theorem setP_ok {g':Gh} {h':Heap} {w':World} {d:Option Tmp} {gg:G} {v:AV} {u:Value} {K:Regs→Prop} (hc:Conc n X g0 r h a w) (hcw:CW X g' h' w') (hst:Step X g0 h w g' h' w')
  (hs:setP n d gg v r K) (h1:holdsC a gg→(∀ e∈gg,e.2.1=e.2.2)∧Rep ⟨g',live X h',w'⟩ v u) (h2:¬ holdsC a gg→u=undef) :
  ∃ r',K r'∧Conc n X g' r' h' (a.put d u) w':=by
 unfold setP at hs
 split at hs
 ·exact ⟨r,hs,by simpa [Act.put] using hc.step hcw hst⟩
 ·split at hs<;>try contradiction
  rename_i hlt
  split at hs<;>try contradiction
  rename_i hni
  rw [Nat.blt_eq] at hlt
  exact ⟨_,hs,hc.put hcw hst hlt hni h1 h2⟩
theorem normK_ok:∀ {ts:List Nat} {k:Regs→Prop},normK r k ts→∃ l,k l∧∀ t gg v,lookR l t=some (gg,v)→lookR r t=some (gg,v)
 | [],k,h=>⟨[],h,fun t gg v hl=>by cases hl⟩
 | t::ts,k,h=>by
   unfold normK at h
   split at h
   ·rename_i v hv
    obtain ⟨l,h1,h2⟩:=normK_ok h
    refine ⟨_,h1,fun t' gg v' hl=>?_⟩
    unfold lookR at hl
    split at hl
    ·rename_i ht
     have ht:=Nat.eq_of_beq_eq_true ht
     subst ht
     cases hl
     exact hv
    ·exact h2 t' gg v' hl
   ·exact normK_ok (k:=k) h
theorem Conc.less {r':Regs} (hc:Conc n X g0 r h a w) (hl:∀ t gg v,lookR r' t=some (gg,v)→lookR r t=some (gg,v)):Conc n X g0 r' h a w:=
 ⟨hc.cw,fun t gg v h=>hc.regs t gg v (hl t gg v h),hc.defers,hc.size⟩
theorem setC_full {cs l:List AV} (hl:cs.length=l.length):setC cs 0 l=l:=by
 unfold setC;simp [← hl]
theorem storeF_ok {t:TypeId} {d:Nat} {y:Operand} {K:Regs→Heap→Prop} {o:Oper} {next:Act→World→Prop} {Q:Exit→Act→World→Prop} (ho:o.op=.store t (.tmp d) y) (hdst:o.dst=none)
  (hs:storeF P r h t d y K) (hc:Conc n X g0 r h a w)
  (hn:∀ r' h' g' w',K r' h'→Conc n X g' r' h' a w'→Step X g0 h w g' h' w'→next a w'):o.wp P a w next Q:=by
 have hg0:holdsC a []:=fun e he=>by cases he
 unfold storeF at hs
 split at hs<;>try contradiction
 rename_i b hx
 split at hs<;>try contradiction
 rename_i v hy
 split at hs<;>try contradiction
 rename_i l hv
 split at hs<;>try contradiction
 rename_i hlen
 have hlen:=Nat.eq_of_beq_eq_true hlen
 obtain ⟨cs,h',hu,⟨hpos,hl⟩,hK⟩:=hs
 obtain ⟨l1,l2,rfl,rfl⟩:=Rem.split hu
 obtain ⟨r1,r2⟩:=cellsV_rep hv (hc.opnd hg0 hy)
 have hrx:=hc.opnd hg0 hx
 obtain ⟨p,cc,tt,p1,p2,p3,p4,p5,p6⟩:=vec_store (o:=0) hc.cw (by omega) r1 (by intro u hu;exact r2 u (by simpa using hu))
 rw [setC_full hl] at p5 p6
 rw [Rep] at hrx
 obtain ⟨p',q1,q2,q3⟩:=hrx
 simp only at q1
 rw [p1] at q1;cases q1
 have hlu:=r1.length
 simp at hlu
 obtain ⟨s1,s2⟩:=p5.sub (h':=l1++l2) (by
   intro k o hm
   simp only [List.mem_append,List.mem_cons] at hm ⊢
   rcases hm with h|h
   ·exact .inl h
   ·exact .inr (.inr h)) (by
   have:=p5.nodup
   rw [keys_app] at this
   simp only [keys,List.map_append,List.nodup_append,List.nodup_cons,List.mem_cons] at this ⊢
   exact ⟨this.1,this.2.1.2,fun x hx y hy=>this.2.2 x hx y (.inr hy)⟩)
 have hrun:(execOp a.eval o).run P w=.ok .skip (w.setCells p.block (p.off+0) (a.eval y).cells.toList):=by
  have:=run_storeVar (P:=P) (w:=w) (t:=t) (b:=p.block) (o:=p.off+0) (u:=a.eval y) (by omega) (by omega) p3 (by simp at p4;omega) r2
  simp only [Nat.add_zero] at this q3
  simp [execOp,ho,q3,this]
 have hnm:=p5.notmem
 have hsep:=p5.sep b (by rw [keys_mem];exact .inl rfl)
 have hob:=p5.obj b (.vec l) (by simp)
 refine wp_skipv hrun ?_
 rw [hdst]
 refine hn _ _ g0 _ hK ?_ (p6.trans hc.cw.own s2)
 have hc2:=hc.step s1 (p6.trans hc.cw.own s2)
 refine ⟨s1,fun t' gg v' hl'=>?_,hc.defers,hc.size⟩
 unfold lookR at hl'
 split at hl'
 ·rename_i ht
  have ht:=Nat.eq_of_beq_eq_true ht
  subst ht
  cases hl'
  refine ⟨fun _=>⟨by simp,?_⟩,fun hh=>absurd hg0 hh⟩
  have hreg:∃ u,a.tmps[d]?=some u∧a.eval (.tmp d)=u:=by
   simp only [Abs.opnd] at hx
   split at hx<;>try contradiction
   rename_i g' v' hlk
   split at hx<;>try contradiction
   rename_i hsub
   have hh:=subG_sound hg0 hsub
   obtain ⟨_,u,hu,_⟩:=(hc.regs _ _ _ hlk).1 hh
   exact ⟨u,hu,eval_tmp hu⟩
  obtain ⟨u,hu1,hu2⟩:=hreg
  refine ⟨u,hu1,?_⟩
  rw [Rep]
  rw [hu2] at q3
  refine ⟨p.block,p.off+0,q3,?_⟩
  obtain ⟨pp,cc2,t2,h1,h2,h3,h4,h5,h6⟩:=hob
  simp only at h1 h3 h4
  rw [p1] at h1;cases h1
  -- the cells,one by one
  have key:∀ (l':List AV) (o:Nat),(∀ i x,l'[i]?=some x→∃ u,cc2[p.off+(o+i)]?=some u∧u.oneCell'=true∧Rep ⟨g0,live X (l1++(b,.vec l)::l2),w.setCells p.block (p.off+0) (a.eval y).cells.toList⟩ x u) →
    RepCs ⟨g0,live X (l1++l2),w.setCells p.block (p.off+0) (a.eval y).cells.toList⟩ l' p.block (p.off+o):=by
   intro l'
   induction l' with
   | nil=>intro o _;simp [RepCs]
   | cons x l' ih=>
     intro o hh
     simp only [RepCs]
     obtain ⟨u,e1,e2,e3⟩:=hh 0 x (by simp)
     refine ⟨⟨u,?_,e2,?_,Rep.mono (Step.le s2) _ _ e3⟩,?_⟩
     ·rw [cell_of_row _ p.block _ cc2 t2 _ h4];simpa using e1
     ·intro k s hk hlv
      simp only at hk
      rw [h3] at hk;cases hk
      rcases hlv with hx|hk
      ·exact absurd hx hsep
      ·exact absurd hk hnm
     ·rw [show p.off+o+1=p.off+(o+1) from rfl]
      refine ih (o+1) (fun i x hx=>?_)
      have:=hh (i+1) x (by simpa using hx)
      rwa [show o+(i+1)=o+1+i from by omega] at this
  exact key l 0 (fun i x hx=>by simpa using h6 i x hx)
 ·exact hc2.regs t' gg v' hl'
theorem wanted_none {o:Oper} {f:Nat→Option Bool} (h:o.guard=none):Region.wanted o f=true:=by simp [Region.wanted,h]
theorem eqB_true {v w:Bool} (h:eqB v w=true):v=w:=by cases v<;>cases w<;>first|rfl|cases h
theorem ungG_holds {tj:Nat} {w:Bool} (hw:a.tmps[tj]?=some (.bool w)):∀ {g:G},holdsC a (ungG tj w g)↔holdsC a g
 | []=>Iff.rfl
 | (t,b,v)::g=>by
   have ih:=ungG_holds hw (g:=g)
   have hc:∀ {g':G},holdsC a ((t,b,v)::g')↔(a.tmps[t]?=some (.bool v)∧holdsC a g'):=by
    intro g'
    unfold holdsC
    exact ⟨fun hh=>⟨hh (t,b,v) (by simp),fun e he=>hh e (by simp [he])⟩,fun hh e he=>by
     rcases List.mem_cons.1 he with rfl|he
     ·exact hh.1
     ·exact hh.2 e he⟩
   unfold ungG
   split
   ·rename_i ht
    have ht:=Nat.eq_of_beq_eq_true ht
    subst ht
    split
    ·rename_i hv
     have hv:=eqB_true hv
     subst hv
     rw [ih,hc]
     exact ⟨fun h1=>⟨hw,h1⟩,fun h1=>h1.2⟩
    ·rw [hc,hc,ih]
   ·rw [hc,hc,ih]
theorem ungG_mem {tj:Nat} {w:Bool}:∀ {g:G},∀ e∈ungG tj w g,e∈g
 | [],e,he=>he
 | (t,b,v)::g,e,he=>by
   unfold ungG at he
   split at he
   ·split at he
    ·exact List.mem_cons_of_mem _ (ungG_mem e he)
    ·rcases List.mem_cons.1 he with rfl|he
     ·simp
     ·exact List.mem_cons_of_mem _ (ungG_mem e he)
   ·rcases List.mem_cons.1 he with rfl|he
    ·simp
    ·exact List.mem_cons_of_mem _ (ungG_mem e he)
theorem ung_look {tj:Nat} {w:Bool}:∀ {r:Regs} {t:Nat} {gg:G} {v:AV},lookR (ung tj w r) t=some (gg,v)→∃ g,lookR r t=some (g,v)∧gg=ungG tj w g
 | [],t,gg,v,h=>by cases h
 | (t',g',v')::r,t,gg,v,h=>by
   unfold ung lookR at h
   unfold lookR
   split at h
   ·rename_i e
    cases h
    exact ⟨g',by first|rfl|rw [e],rfl⟩
   ·rename_i e
    obtain ⟨g,h1,h2⟩:=ung_look h
    exact ⟨g,by first|exact h1|(rw [e];exact h1),h2⟩
theorem Conc.ung {tj:Nat} {w0:Bool} (hc:Conc n X g0 r h a w) (hw:a.tmps[tj]?=some (.bool w0)) (he:∀ t g v,lookR r t=some (g,v)→holdsC a g→∀ e∈g,e.2.1=e.2.2):Conc n X g0 (ung tj w0 r) h a w:=by
 refine ⟨hc.cw,fun t gg v hl=>?_,hc.defers,hc.size⟩
 obtain ⟨g,h1,rfl⟩:=ung_look hl
 rw [ungG_holds hw]
 exact ⟨fun hh=>⟨fun e hm=>he t g v h1 hh e (ungG_mem e hm),((hc.regs t g v h1).1 hh).2⟩,fun hh=>(hc.regs t g v h1).2 hh⟩
theorem regP_ok {c:Cfg} {all:List Oper} {K:Regs→Heap→Prop} {Q:Exit→Act→World→Prop}:∀ (l:List Oper) (i:Nat) (r:Regs) (h:Heap) (g0:Gh) (a:Act) (w:World),
  (∀ j,all[i+j]?=l[j]?)→regP P c n all K l r h→Conc n X g0 r h a w →
  (∀ r' h' g' a' w',K r' h'→Conc n X g' r' h' a' w'→Step X g0 h w g' h' w'→Q .normal a' w') →
  wpOps P all.toArray Q (List.range' i l.length) a w
 | [],i,r,h,g0,a,w,hi,hr,hc,hf=>by
   unfold regP at hr
   obtain ⟨r',hK,hl⟩:=normK_ok (k:=fun r'=>K r' h) hr
   exact hf r' h g0 a w hK (hc.less hl) (Step.refl _ _ _ _)
 | o::l,i,r,h,g0,a,w,hi,hr,hc,hf=>by
   have hg0:holdsC a []:=fun e he=>by cases he
   have hio:all.toArray[i]?=some o:=by have:=hi 0;simpa using this
   have hi':∀ j,all[i+1+j]?=l[j]?:=fun j=>by have:=hi (j+1);rw [show i+1+j=i+(j+1) from by omega];simpa using this
   simp only [List.length_cons,List.range'_succ,wpOps,hio]
   -- what follows
   have hnext:∀ (r':Regs) (h':Heap) (g':Gh) (a':Act) (w':World),regP P c n all K l r' h'→Conc n X g' r' h' a' w'→Step X g0 h w g' h' w' →
     wpOps P all.toArray Q (List.range' (i+1) l.length) a' w':=fun r' h' g' a' w' hr' hc' hst=>
    regP_ok l (i+1) r' h' g' a' w' hi' hr' hc' (fun r2 h2 g2 a2 w2 hK hc2 hst2=>hf r2 h2 g2 a2 w2 hK hc2 (hst.trans hc.cw.own hst2))
   have hnl:∀ {a':Act},NextL X g0 h w (fun v h'=>setP n o.dst [] v r fun r'=>regP P c n all K l r' h') o.dst a (wpOps P all.toArray Q (List.range' (i+1) l.length)):=by
    intro _ v h' g' u w' hs hcw hrep hst
    obtain ⟨r',hK,hc'⟩:=setP_ok (u:=u) hc hcw hst hs (fun _=>⟨by simp,hrep⟩) (fun hh=>absurd hg0 hh)
    exact hnext r' h' g' _ w' hK hc' hst
   unfold regP at hr
   split at hr
   · -- no guard
    rename_i hgd
    rw [if_pos (wanted_none hgd)]
    left
    split at hr
    ·split at hr
     ·rename_i t d y hop hdst
      split at hr
      ·refine storeF_ok hop hdst hr hc (fun r' h' g' w' hK hc' hst=>hnext r' h' g' a w' hK hc' hst)
      ·exact opL_ok hr hc (hnl (a':=a))
     ·exact opX_ok hr hc (hnl (a':=a))
    ·refine opQ_ok hr hc hg0 (by simp) ?_
     intro v g' u w' hs hcw hrep hst
     obtain ⟨r',hK,hc'⟩:=setP_ok (u:=u) hc hcw hst hs (fun _=>⟨by simp,hrep⟩) (fun hh=>absurd hg0 hh)
     exact hnext r' h g' _ w' hK hc' hst
   · -- a guard
    rename_i j wt hgd
    split at hr<;>try contradiction
    rename_i oj hoj
    split at hr<;>try contradiction
    rename_i tj htj
    split at hr<;>try contradiction
    rename_i gj b hlk
    have hreg:=hc.regs tj gj (.bool b) hlk
    have hy:yielded all.toArray a.tmps j=match a.tmps[tj]? with|some (.bool b)=>some b|_=>none:=by
     unfold yielded
     simp [hoj,htj]
     rcases a.tmps[tj]? with _|v
     ·rfl
     ·cases v<;>rfl
    have hwant:Region.wanted o (yielded all.toArray a.tmps)=(yielded all.toArray a.tmps j == some wt):=by simp [Region.wanted,hgd]
    have hyes:holdsC a gj→Region.wanted o (yielded all.toArray a.tmps)=decide (b=wt)∧a.tmps[tj]?=some (.bool b)∧∀ e∈gj,e.2.1=e.2.2:=by
     intro hh
     obtain ⟨h1,u,h2,h3⟩:=hreg.1 hh
     rw [Rep] at h3
     subst h3
     refine ⟨?_,h2,h1⟩
     rw [hwant,hy,h2]
     simp only
     cases b<;>cases wt<;>rfl
    have hnot:¬ holdsC a gj→Region.wanted o (yielded all.toArray a.tmps)=false∧a.tmps[tj]?=some undef:=by
     intro hh
     have h1:=hreg.2 hh
     refine ⟨?_,h1⟩
     rw [hwant,hy,h1]
     rfl
    have hpath:holdsC a (gj++[(tj,b,wt)])↔(holdsC a gj∧b=wt):=by
     constructor
     ·intro hh
      have h1:holdsC a gj:=fun e he=>hh e (by simp [he])
      refine ⟨h1,?_⟩
      have h2:=hh (tj,b,wt) (by simp)
      simp only at h2
      rw [(hyes h1).2.1] at h2
      cases h2;rfl
     ·rintro ⟨h1,rfl⟩ e he
      simp only [List.mem_append,List.mem_singleton] at he
      rcases he with he|rfl
      ·exact h1 e he
      ·exact (hyes h1).2.1
    split at hr
    · -- a call that is split
     split at hr<;>try contradiction
     obtain ⟨hr1,hr2⟩:=hr
     obtain ⟨y1,y2,y3⟩:=hyes hg0
     rw [y1]
     by_cases hb:b=wt
     ·simp only [hb,decide_true,if_true]
      left
      have hc2:=hc.ung (w0:=wt) (by rw [y2,hb]) (fun t g v hl hh=>((hc.regs t g v hl).1 hh).1)
      refine opL_ok (hr1 hb) hc2 ?_
      intro v h' g' u w' hs hcw hrep hst
      obtain ⟨r',hK,hc'⟩:=setP_ok (u:=u) hc2 hcw hst hs (fun _=>⟨by simp,hrep⟩) (fun hh=>absurd hg0 hh)
      exact hnext r' h' g' _ w' hK hc' hst
     ·simp only [hb,decide_false,Bool.false_eq_true,if_false]
      obtain ⟨r',hK,hc'⟩:=setP_ok (u:=undef) hc hc.cw (Step.refl _ _ _ _) (hr2 hb) (fun hh=>by
       have:=hh (tj,b,wt) (by simp)
       simp only at this
       rw [y2] at this;cases this;exact absurd rfl hb) (fun _=>rfl)
      exact hnext r' h g0 _ w hK hc' (Step.refl _ _ _ _)
    ·split at hr<;>try contradiction
     by_cases hh:holdsC a (gj++[(tj,b,wt)])
     ·obtain ⟨h1,h2⟩:=hpath.1 hh
      obtain ⟨y1,y2,y3⟩:=hyes h1
      rw [y1]
      simp only [h2,decide_true,if_true]
      left
      have he:∀ e∈gj++[(tj,b,wt)],e.2.1=e.2.2:=by
       intro e he
       simp only [List.mem_append,List.mem_singleton] at he
       rcases he with he|rfl
       ·exact y3 e he
       ·exact h2
      refine opQ_ok hr hc hh he ?_
      intro v g' u w' hs hcw hrep hst
      obtain ⟨r',hK,hc'⟩:=setP_ok (u:=u) hc hcw hst hs (fun _=>⟨he,hrep⟩) (fun hn=>absurd hh hn)
      exact hnext r' h g' _ w' hK hc' hst
     ·have hw:Region.wanted o (yielded all.toArray a.tmps)=false:=by
       by_cases h1:holdsC a gj
       ·rw [(hyes h1).1]
        simp only [decide_eq_false_iff_not]
        intro hb
        exact hh (hpath.2 ⟨h1,hb⟩)
       ·exact (hnot h1).1
      rw [hw]
      simp only [Bool.false_eq_true,if_false]
      obtain ⟨v,hs⟩:=opQ_some hr
      obtain ⟨r',hK,hc'⟩:=setP_ok (u:=undef) hc hc.cw (Step.refl _ _ _ _) hs (fun hy=>absurd hy hh) (fun _=>rfl)
      exact hnext r' h g0 _ w hK hc' (Step.refl _ _ _ _)
end Go.Abs
/-
 The abstract layer,part K: what a quiet operation depends on.
-/
namespace Go.Abs
open Go
variable {P:Program} {n:Nat} {X:Nat→Prop} {g0:Gh} {r:Regs} {h:Heap} {a:Act} {w:World}
theorem opQ_val {g:G} {K:AV→Prop} {op:Op} (hq:opQ P r g h K op):∃ v,K v∧opQ P r g h (fun x=>x=v) op:=by
 have har:∀ {k:IntKind} {m:Int} {K:AV→Prop},arith g k m K→∃ v,K v∧arith g k m (fun x=>x=v):=by
  intro k m K hh
  unfold arith at hh ⊢
  cases k<;>first|exact ⟨_,hh.2,hh.1,rfl⟩|exact ⟨_,hh,rfl⟩
 have hld:∀ {t:TypeId} {cs:List AV} {K:AV→Prop},loadI P t cs K→∃ v,K v∧loadI P t cs (fun x=>x=v):=by
  intro t cs K hh
  unfold loadI at hh ⊢
  (repeat' split at hh)<;>first|exact ⟨_,hh,rfl⟩|exact hh.elim
 have hbin:∀ {t:TypeId} {op:BinOp} {x y:AV} {K:AV→Prop},binP P g t op x y K→∃ v,K v∧binP P g t op x y (fun x=>x=v):=by
  intro t op x y K
  unfold binP
  simp only [eqK_iff]
  repeat' split
  all_goals first
   | exact fun hh=>hh.elim
   | exact fun hh=>⟨_,hh,rfl⟩
   | exact fun hh=>⟨_,hh.2,hh.1,rfl⟩
   | exact fun hh=>let ⟨v,h1,h2⟩:=har hh.2;⟨v,h1,hh.1,h2⟩
   | exact fun hh=>let ⟨v,h1,h2⟩:=har hh.2.2;⟨v,h1,hh.1,hh.2.1,h2⟩
   | exact fun hh=>⟨_,hh.2.2,hh.1,hh.2.1,rfl⟩
 have hlen:∀ {d:Option TypeDesc} {x:AV} {K:AV→Prop},lenP d x K→∃ v,K v∧lenP d x (fun x=>x=v):=by
  intro d x K
  unfold lenP
  repeat' split
  all_goals first
   | exact fun hh=>hh.elim
   | exact fun hh=>⟨_,hh,rfl⟩
 have hsl:∀ {x:AV} {lo hi:Int} {b:Bool} {K:AV→Prop},sliceP g x lo hi b K→∃ v,K v∧sliceP g x lo hi b (fun x=>x=v):=by
  intro x lo hi b K
  unfold sliceP
  repeat' split
  all_goals first
   | exact fun hh=>hh.elim
   | exact fun hh=>⟨_,hh.2,hh.1,rfl⟩
 have hru:∀ {s:TypeId} {xs:List (List AV)} {K:AV→Prop},runesP P s xs K→∃ v,K v∧runesP P s xs (fun x=>x=v):=by
  intro s xs K
  unfold runesP
  repeat' split
  all_goals first
   | exact fun hh=>hh.elim
   | exact fun ⟨ns,h1,hh⟩=>⟨_,hh,ns,h1,rfl⟩
 revert hq
 unfold opQ
 repeat' split
 all_goals first
  | exact fun hh=>hh.elim
  | exact fun hh=>⟨_,hh,rfl⟩
  | exact hru
  | exact hld
  | exact har
  | exact hbin
  | exact hlen
  | exact hsl
  | exact fun ⟨cs,l,h1,h2,hq⟩=>let ⟨v,k1,k2⟩:=hld hq;⟨v,k1,cs,l,h1,h2,k2⟩
  | exact fun ⟨j,y,h1,hq⟩=>⟨_,hq,j,y,h1,rfl⟩
  | exact fun ⟨es,v,f,h1,h2,hq⟩=>⟨_,hq,es,v,f,h1,h2,rfl⟩
  | exact fun ⟨j,l,h1,h2,hq⟩=>⟨_,hq,j,l,h1,h2,rfl⟩
  | exact fun ⟨h1,hq⟩=>⟨_,hq,h1,rfl⟩
  | exact fun ⟨j,h1,hq⟩=>⟨_,hq,j,h1,rfl⟩
theorem mem_readsX {t:Nat}:∀ {xs:List Operand},Operand.tmp t∈xs→t∈readsX xs
 | x::xs,h=>by
   rcases List.mem_cons.1 h with rfl|h
   ·simp [readsX]
   ·have:=mem_readsX h
    cases x<;>simp [readsX,this]
theorem opnd_congr {r1 r2:Regs} {g:G} {x:Operand} (h:∀ t,x=.tmp t→lookR r1 t=lookR r2 t):opnd r1 g x=opnd r2 g x:=by
 cases x with
 | tmp t=>simp only [opnd,h t rfl]
 | _=>rfl
theorem opnds_congr {r1 r2:Regs} {g:G}:∀ {xs:List Operand},(∀ x∈xs,opnd r1 g x=opnd r2 g x)→opnds r1 g xs=opnds r2 g xs
 | [],_=>rfl
 | x::xs,h=>by
   unfold opnds
   rw [h x (by simp),opnds_congr fun y hy=>h y (by simp [hy])]
theorem partsOf_congr {r1 r2:Regs} {g:G}:∀ {xs:List (Nat × Operand)},(∀ x∈xs.map (·.2),opnd r1 g x=opnd r2 g x)→partsOf r1 g xs=partsOf r2 g xs
 | [],_=>rfl
 | (i,x)::xs,h=>by
   unfold partsOf
   rw [h x (by simp),partsOf_congr fun y hy=>h y (by simp only [List.map_cons,List.mem_cons];exact .inr hy)]
theorem elemsOf_congr {r1 r2:Regs} {g:G} {size:Nat}:∀ {xs:List (Nat × Operand)} {k:Nat},(∀ x∈xs.map (·.2),opnd r1 g x=opnd r2 g x)→elemsOf r1 g size k xs=elemsOf r2 g size k xs
 | [],_,_=>rfl
 | (i,x)::xs,k,h=>by
   unfold elemsOf
   rw [h x (by simp),elemsOf_congr fun y hy=>h y (by simp only [List.map_cons,List.mem_cons];exact .inr hy)]
theorem optInt_congr {r1 r2:Regs} {g:G} {x:Option Operand} {d:Int} (h:∀ y,x=some y→opnd r1 g y=opnd r2 g y):optInt r1 g x d=optInt r2 g x d:=by
 cases x with
 | none=>rfl
 | some y=>simp only [optInt,h y rfl]
theorem opQ_congr {r1 r2:Regs} {g:G} {K:AV→Prop} {op:Op} (h':∀ t∈readsX op.operands.toList,lookR r1 t=lookR r2 t) (hq:opQ P r1 g h K op):opQ P r2 g h K op:=by
 have hx:∀ g,∀ x∈op.operands.toList,opnd r1 g x=opnd r2 g x:=by
  intro g x hx
  exact opnd_congr fun t ht=>h' t (mem_readsX (ht ▸ hx))
 clear h'
 cases op
 case pick c x y=>
  have h1:=fun g=>hx g c (by simp [Op.operands])
  have h2:=fun g=>hx g x (by simp [Op.operands])
  have h3:=fun g=>hx g y (by simp [Op.operands])
  clear hx
  revert hq
  unfold opQ
  split
  all_goals first|exact fun hh=>hh.elim|skip
  all_goals simp_all
 case call cl=>
  have hargs:∀ g,opnds r1 g cl.args.toList=opnds r2 g cl.args.toList:=fun g=>opnds_congr fun x hx'=>hx g x (by simp [Op.operands,Call.operands];exact .inr (by simpa using hx'))
  have hcal:∀ g t,cl.callee=.value (.tmp t)→opnd r1 g (.tmp t)=opnd r2 g (.tmp t):=fun g t ht=>hx g _ (by simp [Op.operands,Call.operands,ht])
  clear hx
  revert hq
  unfold opQ
  simp only [hargs]
  split
  all_goals first|exact fun hh=>hh|skip
  rename_i t ht
  rw [hcal _ _ ht]
  exact fun hh=>hh
 case build t ps=>
  simp only [opQ] at hq ⊢
  rw [← partsOf_congr (r1:=r1) (fun x hx'=>hx g x (by simpa [Op.operands] using hx'))]
  exact hq
 case buildSlice t m ps=>
  simp only [opQ] at hq ⊢
  revert hq
  split
  ·rw [← elemsOf_congr (r1:=r1) (fun x hx'=>hx g x (by simpa [Op.operands] using hx'))]
   exact fun hh=>hh
  ·exact fun hh=>hh
 case makeFunc f first caps=>
  have hargs:∀ g,opnds r1 g caps.toList=opnds r2 g caps.toList:=fun g=>opnds_congr fun x hx'=>hx g x (by simp [Op.operands];exact .inr (by simpa using hx'))
  cases f<;>simp only [opQ] at hq ⊢<;>first|exact hq|skip
  rw [← hargs];exact hq
 case slice t x lo hi mx=>
  cases mx<;>simp only [opQ] at hq ⊢<;>try exact hq
  rw [← hx g x (by simp [Op.operands])]
  have h2:∀ d,optInt r1 g lo d=optInt r2 g lo d:=fun d=>optInt_congr fun y hy=>hx g y (by subst hy;simp [Op.operands])
  have h3:∀ d,optInt r1 g hi d=optInt r2 g hi d:=fun d=>optInt_congr fun y hy=>hx g y (by subst hy;simp [Op.operands])
  simp only [← h2,← h3]
  exact hq
 case makeMap t rr=>simp [opQ] at hq
 case unOp o t x=>
  have h1:=hx g x (by simp [Op.operands])
  cases o<;>first|(simp [opQ] at hq;done)|(simp only [opQ] at hq ⊢;rw [← h1];exact hq)
 all_goals first
  | (simp [opQ] at hq;done)
  | (simp only [Op.operands] at hx
     simp only [opQ] at hq ⊢
     (try simp at hx)
     (try simp only [hx] at hq)
     exact hq)
theorem opQ_free {g:G} {K:AV→Prop} {op:Op} (hf:hfree r g op=true) {h':Heap} (hq:opQ P r g h K op):opQ P r g h' K op:=by
 cases op
 case load t x=>
  simp only [opQ,hfree] at hq hf ⊢
  split at hf
  ·rename_i cs hx;simp only [hx] at hq ⊢;exact hq
  ·cases hf
 case call cl=>
  unfold hfree at hf
  simp only at hf
  split at hf
  ·rename_i b hb
   unfold opQ at hq ⊢
   simp only [hb] at hq ⊢
   cases b<;>exact hq
  ·cases hf
 case pick c x y=>
  revert hq
  unfold opQ
  split
  all_goals first|exact fun hh=>hh|contradiction|(rename_i hh;cases hh)
 case lookup t x i ok=>simp [hfree] at hf
 case unOp o t x=>cases o<;>first|(simp [opQ] at hq;done)|(simp only [opQ] at hq ⊢;exact hq)
 case slice t x lo hi mx=>cases mx<;>first|(simp [opQ] at hq;done)|(simp only [opQ] at hq ⊢;exact hq)
 case makeFunc f first caps=>cases f<;>first|(simp [opQ] at hq;done)|(simp only [opQ] at hq ⊢;exact hq)
 all_goals first|exact hq|(simp [opQ] at hq;done)
end Go.Abs
