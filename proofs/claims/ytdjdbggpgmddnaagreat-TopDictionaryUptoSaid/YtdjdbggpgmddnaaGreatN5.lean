/- Small laws for the walks and contracts of functions; each theorem names its conditions. -/
import Derived.Test.YtdjdbggpgmddnaaGreatN4
import Derived.Laws.OwnMore
import Derived.Carry
import Derived.Laws.IdiomRangeMap
/-
 The abstract layer,part F: the operations that make or turn own objects.
-/
set_option linter.unusedVariables false
set_option linter.unusedSimpArgs false
namespace Go.Abs
open Go
variable {P:Program} {n:Nat} {X:Nat->Prop} {g0:Gh} {r:Regs} {h:Heap} {a:Act} {w:World}
def Gh.set (g:Gh) (k:Nat) (p:Option Addr) (b:Option (Nat × Nat)):Gh where
 pl:=fun k'=>if k'=k then p else g.pl k'
 ow:=fun b'=>match b with
  | some (bb,s)=>if b'=bb then some (k,s) else g.ow b'
  | none=>g.ow b'
theorem CW.fresh (hc:CW X g0 h w):∃ k,¬ X k/\k ∉ keys h/\g0.pl k=none/\∀ b s,g0.ow b≠some (k,s):=by
 obtain ⟨N,hN⟩:=hc.bound;refine ⟨N,fun hx=>?_,fun hk=>?_,?_,fun b s hb=>?_⟩
 ·exact absurd (hN N (.inl hx)) (Nat.lt_irrefl _)
 ·exact absurd (hN N (.inr (.inl hk))) (Nat.lt_irrefl _)
 ·cases hp:g0.pl N with
  | none=>rfl
  | some p=>exact absurd (hN N (.inr (.inr (.inl (by simp [hp]))))) (Nat.lt_irrefl _)
 exact absurd (hN N (.inr (.inr (.inr ⟨b,s,hb⟩)))) (Nat.lt_irrefl _)
theorem CW.newAt (hc:CW X g0 h w) (o:Obj) (s:Nat):∃ k,k ∉ keys h/\¬ X k /\
  (∀ ob,Step X g0 h w (g0.set k (some ⟨w.heap.size,s,none⟩) (some (w.heap.size,s))) ((k,ob)::h) (w.alloc o)) /\
  ∀ ob,ObjRep ⟨g0.set k (some ⟨w.heap.size,s,none⟩) (some (w.heap.size,s)),live X ((k,ob)::h),w.alloc o⟩ k ob ->
   CW X (g0.set k (some ⟨w.heap.size,s,none⟩) (some (w.heap.size,s))) ((k,ob)::h) (w.alloc o):=by
 obtain ⟨k,f1,f2,f3,f4⟩:=hc.fresh
 have hst:∀ ob,Step X g0 h w (g0.set k (some ⟨w.heap.size,s,none⟩) (some (w.heap.size,s))) ((k,ob)::h) (w.alloc o):=by
  intro ob;refine ⟨rfl,⟨rfl,Nat.le_refl _⟩,rfl,by simp,?_,?_,?_,?_,?_,?_,?_⟩
  ·intro k' p hp;simp only [Gh.set];split
   ·rename_i e;subst e;rw [f3] at hp;cases hp
   exact hp
  ·intro b k' s' hb hx;simp only [Gh.set];split
   ·rename_i e;subst e;exact absurd (hc.own _ _ _ hb) (Nat.lt_irrefl _)
   exact hb
  ·intro b k' s' hb hx;simp only [Gh.set] at hb;split at hb
   ·cases hb;exact absurd hx f1
   exact hb
  ·intro k' hx hp;simp only [Gh.set];split
   ·rename_i e;subst e;exact absurd hx f1
   exact hp
  ·intro b hb hno;refine ⟨heap_alloc_lt w o hb,fun k' s' hb' hk'=>?_⟩;simp only [Gh.set] at hb';split at hb'
   ·omega
   simp [keys] at hk';rcases hk' with rfl|⟨x,hx⟩
   ·exact f4 _ _ hb'
   exact hno k' s' hb' (by simp [keys];exact ⟨x,hx⟩)
  ·intro b k' s' hb hk' cc t f hcc;exact ⟨cc,(heap_alloc_lt w o (hc.own _ _ _ hb)).trans hcc,rfl,fun _ _=>rfl⟩
  intro b k' s' hb hk' k'' s'' hb'' _;simp only [Gh.set] at hb'';split at hb''
  ·rename_i e;subst e;exact absurd (hc.own _ _ _ hb) (Nat.lt_irrefl _)
  rw [hb] at hb'';cases hb'';exact Nat.le_refl _
 refine ⟨k,f2,f1,hst,fun ob hob=>⟨?_,?_,?_,?_,?_⟩⟩
 ·intro b k' s' hb;simp only [Gh.set] at hb;split at hb
  ·rename_i e;subst e;simp
  have:=hc.own _ _ _ hb;simp;omega
 ·obtain ⟨N,hN⟩:=hc.bound;refine ⟨max N (k+1),fun k' hk'=>?_⟩;by_cases e:k'=k
  ·subst e;omega
  have:k'<N:=by
   rcases hk' with hx|hk'|hp|⟨b,s',hb⟩
   ·exact hN _ (.inl hx)
   ·simp [keys,e] at hk';obtain ⟨x,hx⟩:=hk';exact hN _ (.inr (.inl (by simp [keys];exact ⟨x,hx⟩)))
   ·simp only [Gh.set,e,if_false] at hp;exact hN _ (.inr (.inr (.inl hp)))
   simp only [Gh.set] at hb;split at hb
   ·cases hb;exact absurd rfl e
   exact hN _ (.inr (.inr (.inr ⟨b,s',hb⟩)))
  omega
 ·simp only [keys,List.map_cons,List.nodup_cons];exact ⟨f2,hc.nodup⟩
 ·intro k' hk';simp [keys] at hk';rcases hk' with rfl|⟨x,hx⟩
  ·exact f1
  exact hc.sep k' (by simp [keys];exact ⟨x,hx⟩)
 intro k' o' hm;rcases List.mem_cons.1 hm with e|hm
 ·cases e;exact hob
 have hk':k'∈keys h:=by simp [keys];exact ⟨o',hm⟩
 have hne:k'≠k:=fun e=>f2 (e ▸ hk');refine ObjRep.keep (c:=⟨g0,live X h,w⟩) (Step.le (hst ob)) (hc.obj k' o' hm) ?_ ?_
 ·intro p hp ⟨s',ho⟩;have hlt:=hc.own _ _ _ ho;refine ⟨heap_alloc_lt w o hlt,?_⟩;simp only [Gh.set];rw [if_neg (by omega)]
 intro hp;simp only [Gh.set,hne,if_false];exact hp
theorem opQ_some {g:G} {K:AV->Prop} {op:Op} (hq:opQ P r g h K op):∃ v,K v:=by
 have har:∀ {k:IntKind} {m:Int} {K:AV->Prop},arith g k m K->∃ v,K v:=by intro k m K hh;unfold arith at hh;cases k<;>first|exact ⟨_,hh.2⟩|exact ⟨_,hh⟩
 have hld:∀ {t:TypeId} {cs:List AV} {K:AV->Prop},loadI P t cs K->∃ v,K v:=by
  intro t cs K hh;unfold loadI at hh
  (repeat' split at hh)<;>first|exact ⟨_,hh⟩|exact hh.elim
 unfold opQ at hq;split at hq;all_goals (repeat' split at hq)
 all_goals first
  | exact hq.elim
  | exact ⟨_,hq⟩
  | exact hld hq
  | exact har hq
  | (obtain ⟨cs,l,_,_,hq⟩:=hq;exact hld hq)
  | (obtain ⟨j,y,_,hq⟩:=hq;exact ⟨_,hq⟩)
  | (obtain ⟨es,v,f,_,_,hq⟩:=hq;exact ⟨_,hq⟩)
  | (obtain ⟨j,l,_,_,hq⟩:=hq;exact ⟨_,hq⟩)
  | exact ⟨_,hq.2⟩
  | (obtain ⟨j,_,hq⟩:=hq;exact ⟨_,hq⟩)
  | (unfold binP at hq;simp only [eqK_iff] at hq;(repeat' split at hq)<;>first|exact hq.elim|exact ⟨_,hq⟩|(split at hq<;>first|exact hq.elim|exact ⟨_,hq.2⟩)|exact ⟨_,hq.2⟩|exact har hq.2|exact har hq.2.2|exact ⟨_,hq.2.2⟩)
  | (unfold lenP at hq;(repeat' split at hq)<;>first|exact hq.elim|exact ⟨_,hq⟩)
  | (unfold sliceP at hq;(repeat' split at hq)<;>first|exact hq.elim|exact ⟨_,hq.2⟩)
  | (unfold runesP at hq;(repeat' split at hq)<;>first|exact hq.elim|(obtain ⟨ns,_,hq⟩:=hq;exact ⟨_,hq⟩))
theorem Upd.split {b b':Nat} {o o':Ob}:∀ {h h':Heap},Upd b o b' o' h h'->∃ l1 l2,h=l1++(b,o)::l2/\h'=l1++(b',o')::l2
 | _,_,.here l=>⟨[],l,rfl,rfl⟩
 | _,_,.there (x:=x) u=>by obtain ⟨l1,l2,rfl,rfl⟩:=Upd.split u;exact ⟨x::l1,l2,rfl,rfl⟩
theorem Rem.split {b:Nat} {o:Ob}:∀ {h h':Heap},Rem b o h h'->∃ l1 l2,h=l1++(b,o)::l2/\h'=l1++l2
 | _,_,.here l=>⟨[],l,rfl,rfl⟩
 | _,_,.there (x:=x) u=>by obtain ⟨l1,l2,rfl,rfl⟩:=Rem.split u;exact ⟨x::l1,l2,rfl,rfl⟩
theorem keys_app (l1 l2:Heap) (b:Nat) (o:Ob):keys (l1++(b,o)::l2)=keys l1++b::keys l2:=by simp [keys]
theorem keys_mem (l1 l2:Heap) (b:Nat) (o:Ob) (k:Nat):k∈keys (l1++(b,o)::l2)↔k=b\/k∈keys (l1++l2):=by rw [keys_app];simp only [keys,List.map_append,List.mem_append,List.mem_cons];exact or_left_comm
theorem CW.replace {l1 l2:Heap} {b b':Nat} {o o':Ob} (hc:CW X g0 (l1++(b,o)::l2) w) {g':Gh} {w':World}
  (hst:Step X g0 (l1++(b,o)::l2) w g' (l1++(b',o')::l2) w')
  (hown:∀ blk k s,g'.ow blk=some (k,s)->blk<w'.heap.size)
  (hb':b'=b\/(¬ X b'/\b' ∉ keys (l1++(b,o)::l2)))
  (hpb:∀ k,g'.pl k≠none->k=b'\/g0.pl k≠none) (hob:∀ blk s k,g'.ow blk=some (k,s)->k=b'\/∃ blk s,g0.ow blk=some (k,s))
  (hother:∀ blk k s,g0.ow blk=some (k,s)->k∈keys (l1++l2)->w'.heap[blk]?=w.heap[blk]?/\g'.ow blk=g0.ow blk)
  (hrep:ObjRep ⟨g',live X (l1++(b',o')::l2),w'⟩ b' o'):CW X g' (l1++(b',o')::l2) w':=by
 have hnd:=hc.nodup;rw [keys_app] at hnd;have hkeys:=keys_mem l1 l2 b' o';have hkeys0:=keys_mem l1 l2 b o
 have hbn:b ∉ keys (l1++l2):=by
  have:=hnd;simp only [List.nodup_append,List.nodup_cons] at this;intro hm;simp only [keys,List.map_append,List.mem_append] at hm;rcases hm with hm|hm
  ·exact this.2.2 b hm b (by simp) rfl
  exact this.2.1.1 hm
 have hbn':b' ∉ keys (l1++l2):=by
  rcases hb' with rfl|⟨_,hb'⟩
  ·exact hbn
  intro hm;exact hb' ((hkeys0 b').2 (.inr hm))
 refine ⟨hown,?_,?_,?_,?_⟩
 ·obtain ⟨N,hN⟩:=hc.bound;refine ⟨max N (b'+1),fun k hk=>?_⟩;by_cases e:k=b'
  ·omega
  have:k<N:=by
   rcases hk with hx|hk|hp|⟨blk,s,hbk⟩
   ·exact hN _ (.inl hx)
   ·exact hN _ (.inr (.inl ((hkeys0 k).2 (.inr (((hkeys k).1 hk).resolve_left e)))))
   ·exact hN _ (.inr (.inr (.inl ((hpb k hp).resolve_left e))))
   exact hN _ (.inr (.inr (.inr ((hob blk s k hbk).resolve_left e))))
  omega
 ·rw [keys_app];have h1:=hnd;simp only [List.nodup_append,List.nodup_cons] at h1 ⊢;have hb1:b' ∉ keys l1:=fun hm=>hbn' (by simp [keys] at hm ⊢;exact .inl hm);have hb2:b' ∉ keys l2:=fun hm=>hbn' (by simp [keys] at hm ⊢;exact .inr hm);refine ⟨h1.1,⟨hb2,h1.2.1.2⟩,fun x hx y hy=>?_⟩;rcases List.mem_cons.1 hy with rfl|hy
  ·intro e;subst e;exact hb1 hx
  exact h1.2.2 x hx y (by simp [hy])
 ·intro k hk;rcases (hkeys k).1 hk with rfl|hk
  ·rcases hb' with rfl|⟨hb',_⟩
   ·exact hc.sep _ ((hkeys0 _).2 (.inl rfl))
   exact hb'
  exact hc.sep k ((hkeys0 k).2 (.inr hk))
 intro k ok hm;have hm':(k,ok)=(b',o')\/(k,ok)∈l1++l2:=by simp only [List.mem_append,List.mem_cons] at hm ⊢;exact or_left_comm.1 hm
 rcases hm' with e|hm'
 ·cases e;exact hrep
 have hk:k∈keys (l1++l2):=by simp only [keys,List.mem_map];exact ⟨_,hm',rfl⟩
 have hin:(k,ok)∈l1++(b,o)::l2:=by simp only [List.mem_append,List.mem_cons] at hm' ⊢;exact hm'.elim .inl (fun h=>.inr (.inr h))
 refine ObjRep.keep (c:=⟨g0,live X (l1++(b,o)::l2),w⟩) (Step.le hst) (hc.obj k ok hin) (fun p hp ⟨s,ho⟩=>hother _ _ _ ho hk) (fun hp=>?_);by_cases e:k=b'
 ·exact absurd (e ▸ hk) hbn'
 cases hq:g'.pl k with
 | none=>rfl
 | some p=>exact absurd hp ((hpb k (by simp [hq])).resolve_left e)
theorem setCells_heap (b:Nat):∀ (vs:List Value) (o:Nat) (w:World) (cc:Array Value) (t:TypeId) (f:Nat × Nat),w.heap[b]?=some (.cells cc t f)->o+vs.length<=cc.size ->
  ∃ cc',(w.setCells b o vs).heap[b]?=some (.cells cc' t f)/\cc'.size=cc.size/\(∀ j,j<o\/o+vs.length<=j->cc'[j]?=cc[j]?)/\(∀ j (hj:j<vs.length),cc'[o+j]?=some vs[j]) /\
   (∀ b',b'≠b->(w.setCells b o vs).heap[b']?=w.heap[b']?)/\(w.setCells b o vs).heap.size=w.heap.size/\(w.setCells b o vs).os=w.os/\((w.setCells b o vs).tape=w.tape/\w.drawn<=(w.setCells b o vs).drawn) /\
   (w.setCells b o vs).output=w.output
 | [],o,w,cc,t,f,h,_=>⟨cc,h,rfl,fun _ _=>rfl,fun j hj=>by simp at hj,fun _ _=>rfl,rfl,rfl,⟨rfl,Nat.le_refl _⟩,rfl⟩
 | v::vs,o,w,cc,t,f,h,hle=>by
   simp only [List.length_cons] at hle;have h1:(w.setCell ⟨b,o,none⟩ v).heap[b]?=some (.cells (cc.setIfInBounds o v) t f):=by simp only [World.setCell,Array.getElem?_modify,if_true,h];rfl
   obtain ⟨cc',e1,e2,e3,e4,e5,e6,e7,e8,e9⟩:=setCells_heap b vs (o+1) (w.setCell ⟨b,o,none⟩ v) _ t f h1 (by simp;omega);refine ⟨cc',e1,by simpa using e2,fun j hj=>?_,fun j hj=>?_,fun b' hb'=>?_,by simpa [World.setCells] using e6,e7,e8,e9⟩
   ·rw [e3 j (by simp only [List.length_cons] at hj;omega),Array.getElem?_setIfInBounds_ne (by simp only [List.length_cons] at hj;omega)]
   ·cases j with
    | zero=>
      rw [e3 (o+0) (by omega)];simp [Array.getElem?_setIfInBounds,show o<cc.size from by omega]
    | succ j=>
      have:=e4 j (by simpa using hj);rw [show o+(j+1)=o+1+j from by omega];simpa using this
   show ((w.setCell ⟨b,o,none⟩ v).setCells b (o+1) vs).heap[b']?=_;rw [e5 b' hb'];exact heap_setCell_other w _ b' v hb'
theorem run_storeVar {t:TypeId} {b o:Nat} {u:Value} {cc:Array Value} {ty:TypeId} (hs:u.cells.size=P.cellsOf t) (hi:0<P.cellsOf t) (hb:w.heap[b]?=some (.cells cc ty (0,0))) (hle:o+u.cells.size<=cc.size)
  (h1:∀ x∈u.cells,x.oneCell'=true):(Instr.storeAt t (.pointer (some ⟨b,o,none⟩)) u).run P w=.ok () (w.setCells b o u.cells.toList):=by
 have hie:∃ i,P.info? t=some i:=by
  cases hie:P.info? t with
  | none=>simp [Program.cellsOf,hie] at hi
  | some i=>exact ⟨i,rfl⟩
 obtain ⟨i,hie⟩:=hie
 have hst:=run_storeCells_cells (P:=P) b o u.cells.toList 0 w
  (fun j hj=>by
    simp only [Nat.add_zero];rw [cell_of_row w b (o+j) cc ty _ hb];have:o+j<cc.size:=by simp at hj;omega
    simp [this])
  (fun j hj=>frozen_of_row w b _ cc ty hb) (fun v hv=>h1 v (by simpa using hv))
 simp only [Nat.add_zero] at hst;simp [Instr.storeAt,Instr.sureAddr,storeVar,run_sizeT hie,hs,hst]
theorem CW.notmem {l1 l2:Heap} {b:Nat} {o:Ob} (hc:CW X g0 (l1++(b,o)::l2) w):b ∉ keys (l1++l2):=by
 have:=hc.nodup;rw [keys_app] at this;simp only [List.nodup_append,List.nodup_cons] at this;intro hm;simp only [keys,List.map_append,List.mem_append] at hm;rcases hm with hm|hm
 ·exact this.2.2 b hm b (by simp) rfl
 exact this.2.1.1 hm
theorem setC_get (cs:List AV) (o:Nat) (l:List AV) (hle:o+l.length<=cs.length) (i:Nat) :
  (setC cs o l)[i]?=if o<=i/\i<o+l.length then l[i - o]? else cs[i]?:=by
 unfold setC;by_cases h1:i<o
 ·rw [if_neg (by omega),List.append_assoc,List.getElem?_append_left (by simp;omega),List.getElem?_take_of_lt h1]
 by_cases h2:i<o+l.length
 ·rw [if_pos ⟨by omega,h2⟩,List.append_assoc,List.getElem?_append_right (by simp;omega),List.getElem?_append_left (by simp;omega)];congr 1;simp;omega
 rw [if_neg (by omega),List.getElem?_append_right (by simp;omega),List.getElem?_drop];congr 1;simp;omega
theorem setC_length (cs:List AV) (o:Nat) (l:List AV) (hle:o+l.length<=cs.length):(setC cs o l).length=cs.length:=by unfold setC;simp;omega
theorem vec_store {l1 l2:Heap} {b:Nat} {cs l:List AV} {o:Nat} {us:List Value} (hc:CW X g0 (l1++(b,.vec cs)::l2) w) (hle:o+l.length<=cs.length)
  (hus:RepVs ⟨g0,live X (l1++(b,.vec cs)::l2),w⟩ l us) (ho:∀ u∈us,u.oneCell'=true) :
  ∃ p cc t,g0.pl b=some p/\p.spot=none/\w.heap[p.block]?=some (.cells cc t (0,0))/\p.off+o+us.length<=cc.size /\
   CW X g0 (l1++(b,.vec (setC cs o l))::l2) (w.setCells p.block (p.off+o) us) /\
   Step X g0 (l1++(b,.vec cs)::l2) w g0 (l1++(b,.vec (setC cs o l))::l2) (w.setCells p.block (p.off+o) us):=by
 have hob:=hc.obj b (.vec cs) (by simp);obtain ⟨p,cc,t,h1,h2,h3,h4,h5,h6⟩:=hob;simp only at h1 h3 h4;have hlen:=hus.length;have hfit:p.off+o+us.length<=cc.size:=(by omega);obtain ⟨cc',e1,e2,e3,e4,e5,e6,e7,e8,e9⟩:=setCells_heap p.block us (p.off+o) w cc t (0,0) h4 hfit;have hbk:b∈keys (l1++(b,.vec cs)::l2):=by rw [keys_mem];exact .inl rfl
 have hst:Step X g0 (l1++(b,.vec cs)::l2) w g0 (l1++(b,.vec (setC cs o l))::l2) (w.setCells p.block (p.off+o) us):=by
  refine ⟨e7,e8,e9,by omega,fun _ _ e=>e,fun _ _ _ e _=>e,fun _ _ _ e _=>e,fun _ _ e=>e,?_,?_,?_⟩
  ·intro blk hb hn;have hne:blk≠p.block:=fun e=>hn b 0 (e ▸ h3) hbk;refine ⟨e5 blk hne,fun k s hk hm=>hn k s hk ?_⟩;rw [keys_mem] at hm ⊢;exact hm
  ·intro blk k s hk hm dd tt ff hdd;by_cases e:blk=p.block
   ·subst e;rw [h3] at hk;cases hk
    rw [h4] at hdd;cases hdd
    exact ⟨cc',e1,e2,fun o ho=>by omega⟩
   exact ⟨dd,(e5 blk e).trans hdd,rfl,fun _ _=>rfl⟩
  intro blk k s hk _ k' s' hk' _;rw [hk] at hk';cases hk';exact Nat.le_refl _
 refine ⟨p,cc,t,h1,h2,h4,hfit,?_,hst⟩;refine hc.replace hst (fun blk k s hk=>by have:=hc.own _ _ _ hk;omega) (.inl rfl) (fun k hk=>.inr hk) (fun blk s k hk=>.inr ⟨blk,s,hk⟩) ?_ ?_
 ·intro blk k s hk hm
  have hne:blk≠p.block:=by
   intro e;rw [e,h3] at hk;cases hk
   exact hc.notmem hm
  exact ⟨e5 blk hne,rfl⟩
 refine ⟨p,cc',t,h1,h2,h3,e1,by rw [setC_length _ _ _ hle];omega,?_⟩;intro i x hx;rw [setC_get _ _ _ hle] at hx;split at hx
 ·rename_i hi;obtain ⟨u,hu,hr⟩:=hus.get _ _ hx;have hlt:i - o<us.length:=(by omega);refine ⟨u,?_,ho u (List.mem_of_getElem? hu),Rep.mono (Step.le hst) _ _ hr⟩;have:=e4 (i - o) hlt;rw [show p.off+o+(i - o)=p.off+i from by omega] at this;rw [this,<- hu,List.getElem?_eq_getElem hlt]
 rename_i hi;obtain ⟨u,hu,ho',hr⟩:=h6 i x hx;exact ⟨u,by rw [e3 _ (by omega)];exact hu,ho',Rep.mono (Step.le hst) _ _ hr⟩
end Go.Abs
/-
 The abstract layer,part G: append,make,and all operations that make or turn own objects.
-/
namespace Go.Abs
open Go
variable {P:Program} {n:Nat} {X:Nat->Prop} {g0:Gh} {r:Regs} {h:Heap} {a:Act} {w:World}
theorem srcTy_ok {tx:TypeId} (h:srcTy P tx=true):∃ d,P.underlying tx=some d/\((∃ e,d=.slice e)\/d=.string):=by
 unfold srcTy at h;cases hu:P.underlying tx with
 | none=>simp [hu] at h
 | some d=>cases d<;>simp [hu] at h<;>simp
theorem run_append_room' {t tx ty e:TypeId} {i:TypeInfo} (ht:P.underlying t=some (.slice e)) (htx:srcTy P tx=true) (hi:P.info? e=some i)
  {base:Option Addr} {sLen sCap m:Nat} {ux:Value} {news:List Value}
  (hl:∀ w',(Builtin.lenOf ux).run P w'=.ok m w') (hf:(Builtin.firstCells i.size m ux).run P w=.ok news.toArray w) (hroom:sLen+m<=sCap)
  {w':World} (hst:∀ a,base=some a->(storeCells (a.add (sLen*i.size)) news).run P w=.ok () w') (hn:base=none->w'=w) :
  (Builtin.append_ #[t,tx] ty #[.slice base sLen sCap,ux]).run P w=.ok (.slice base (sLen+m) sCap) w':=by
 obtain ⟨d,hd,hd'⟩:=srcTy_ok htx;have hz:((match (d:TypeDesc) with|.int _=>true|_=>false):Bool)=false:=by rcases hd' with ⟨e,rfl⟩|rfl<;>rfl
 cases base with
 | none=>
   have:=hn rfl;subst this;rcases hd' with ⟨e',rfl⟩|rfl<;>simp [Builtin.append_,run_underlying ht,run_underlying hd,sizeOf,typeInfo,hi,hl,hroom,hf]
 | some b=>
   have:=hst b rfl;rcases hd' with ⟨e',rfl⟩|rfl<;>simp [Builtin.append_,run_underlying ht,run_underlying hd,sizeOf,typeInfo,hi,hl,hroom,hf,this]
theorem run_append_grow' {t tx ty e:TypeId} {i:TypeInfo} {z:Value} (ht:P.underlying t=some (.slice e)) (htx:srcTy P tx=true) (hi:P.info? e=some i) (hz:i.zero=some z)
  {base:Option Addr} {sLen sCap m:Nat} {ux:Value} {olds news:List Value}
  (hl:∀ w',(Builtin.lenOf ux).run P w'=.ok m w') (hf:(Builtin.firstCells i.size m ux).run P w.drew=.ok news.toArray w.drew)
  (ho:(Builtin.firstCells i.size sLen (.slice base sLen sCap)).run P w.drew=.ok olds.toArray w.drew) (hg:sCap<sLen+m) (hmax:sLen+m<=AMAX) (hb:i.bytes<=4096) :
  (Builtin.append_ #[t,tx] ty #[.slice base sLen sCap,ux]).run P w =
    .ok (.slice (some ⟨w.heap.size,0,none⟩) (sLen+m) (grownCap w (sLen+m) sCap e))
     (w.drew.alloc (.cells ((olds++news).toArray++Builtin.zeroCells z.cells (grownCap w (sLen+m) sCap e - (sLen+m))) e)):=by
 obtain ⟨d,hd,hd'⟩:=srcTy_ok htx;have e0:∀ Z:Array Value,olds.toArray++(news.toArray++Z)=(olds++news).toArray++Z:=by intro Z;rw [<- Array.append_assoc];simp
 unfold AMAX at hmax;have hn:¬ (sLen+m<=sCap):=(by omega);have h63':¬ (9223372036854775807<((sLen:Int)+(m:Int))):=(by omega);have hfit:Builtin.nextslicecap (sLen+m) sCap*i.bytes<=281474976710656:=by have h1:Builtin.nextslicecap (sLen+m) sCap<=2*(sLen+m):=nextslicecap_le hg;exact Nat.le_trans (Nat.mul_le_mul h1 hb) (by omega)
 have h48':¬ (281474976710656<Builtin.nextslicecap (sLen+m) sCap*i.bytes):=(by omega);have hf':(Builtin.firstCells i.size m ux).run P { w with drawn:=w.drawn+1 }=.ok news.toArray { w with drawn:=w.drawn+1 }:=hf;have ho':(Builtin.firstCells i.size sLen (.slice base sLen sCap)).run P { w with drawn:=w.drawn+1 }=.ok olds.toArray { w with drawn:=w.drawn+1 }:=ho
 rcases hd' with ⟨e',rfl⟩|rfl <;>
  (simp [Builtin.append_,run_underlying ht,run_underlying hd,sizeOf,typeInfo,zeroValue,hi,hz,hl,hn,h63',h48',Question.forced,hf,ho,newRow,grownCap];rw [e0])
theorem src_ok {k:Nat} {y:AV} {ys:List (List AV)} {u:Value} {c:Cx} (h:srcOf k y=some ys) (hu:Rep c y u) :
  ∃ news:List Value,(∀ w',(Builtin.lenOf u).run P w'=.ok ys.length w')/\(∀ w':World,w'.heap=c.w.heap->(Builtin.firstCells k ys.length u).run P w'=.ok news.toArray w') /\
   RepVs c ys.flatten news/\(∀ x∈ys,x.length=k)/\(∀ v∈news,v.oneCell'=true):=by
 unfold srcOf at h;split at h
 ·rename_i k' q xs;split at h<;>try contradiction
  rename_i hk;have hk:=Nat.eq_of_beq_eq_true hk;cases h
  subst hk;simp only [Rep] at hu;obtain ⟨base,cap,rfl,e1,e2,e3,e4,e5,e6,e7⟩:=hu;cases base with
  | none=>
    have hx:ys=[]:=List.eq_nil_of_length_eq_zero (by have:=e4 rfl;omega);subst hx;exact ⟨[],fun w'=>by simp [Builtin.lenOf],fun w' _=>by simp [Builtin.firstCells],by simp [RepVs],by simp,by simp⟩
  | some ad=>
    obtain ⟨f1,f2⟩:=RepEs.toFlat (e6 ad rfl);obtain ⟨us,g1,g2,g3⟩:=RepCs.load f2;refine ⟨us,fun w'=>by simp [Builtin.lenOf],fun w' hw=>?_,g3,f1,fun v hv=>?_⟩
    ·refine run_firstCells_some w' k' ys.length ad ys.length cap us (by rw [g1,flat_length f1]) (fun j v hj=>?_);have:=(g2 j v hj).1;have hs:ad.spot=none:=e5 ad rfl (fun e=>by subst e;simp at g1;rw [g1] at hj;simp at hj)
     have hadd:ad.add j=⟨ad.block,ad.off+j,none⟩:=by
      unfold Addr.add;split
      ·rename_i h0;rw [h0];cases ad;simp_all
      rfl
     rw [hadd];simpa [World.cell?,hw] using this
    obtain ⟨j,hj⟩:=List.mem_iff_getElem?.1 hv;exact (g2 j v hj).2
 ·cases h
  simp only [Rep] at hu;subst hu;exact ⟨[],fun w'=>by simp [Builtin.lenOf],fun w' _=>by simp [Builtin.firstCells],by simp [RepVs],by simp,by simp⟩
 ·split at h<;>try contradiction
  cases h
  simp only [Rep] at hu;obtain ⟨a,cap,rfl,_⟩:=hu;exact ⟨[],fun w'=>by simp [Builtin.lenOf],fun w' _=>run_firstCells_some w' k 0 a 0 cap [] (by simp) (by simp),by simp [RepVs],by simp,by simp⟩
 ·rename_i s;split at h<;>try contradiction
  rename_i hk;have hk:=Nat.eq_of_beq_eq_true hk;cases h
  subst hk;rw [Rep] at hu;obtain ⟨b,rfl,rfl,hl⟩:=hu;refine ⟨b.data.toList.map fun x=>.int .u8 (x.toNat:Int),fun w'=>?_,fun w' _=>?_,?_,by simp,?_⟩
  ·simp [Builtin.lenOf]
  ·simp [Builtin.firstCells];try exact Array.ext' (by simp)
  ·have key:∀ l:List UInt8,RepVs c (l.map fun b=>[AV.int .u8 (b.toNat:Int)]).flatten (l.map fun x=>.int .u8 (x.toNat:Int)):=by
    intro l;induction l with
    | nil=>simp [RepVs]
    | cons x l ih=>
      simp only [List.map_cons,List.flatten_cons,List.singleton_append,RepVs];refine ⟨_,_,rfl,?_,ih⟩;rw [Rep];have:=x.toNat_lt;exact ⟨rfl,by constructor<;>simp [IntKind.min,IntKind.max,IntKind.signed,IntKind.bits]<;>omega⟩
   exact key _
  intro v hv;simp at hv;obtain ⟨x,_,rfl⟩:=hv;rfl
 cases h
def NextL (X:Nat->Prop) (g0:Gh) (h:Heap) (w:World) (K:AV->Heap->Prop) (d:Option Tmp) (a:Act) (next:Act->World->Prop):Prop:=
 ∀ v h' g' u w',K v h'->CW X g' h' w'->Rep ⟨g',live X h',w'⟩ v u->Step X g0 h w g' h' w'->next (a.put d u) w'
theorem RepCs.in {c:Cx} {us:List Value} {b:Nat}:∀ {cs:List AV} {l:List Value} {o:Nat},RepVs c cs l ->
  (∀ j u,l[j]?=some u->c.w.cell? ⟨b,o+j,none⟩=some u/\u.oneCell'=true/\c.fr b (o+j))->RepCs c cs b o
 | [],l,o,_,_=>by simp [RepCs]
 | x::cs,l,o,h,hl=>by
   simp only [RepVs] at h;obtain ⟨u,r,rfl,h1,h2⟩:=h;simp only [RepCs];obtain ⟨e1,e2,e3⟩:=hl 0 u (by simp)
   exact ⟨⟨u,by simpa using e1,e2,by simpa using e3,h1⟩,RepCs.in (us:=us) h2 (fun j v hv=>by
    have:=hl (j+1) v (by simpa using hv);rw [show o+1+j=o+(j+1) from by omega];exact this)⟩
theorem RepEs.append {c:Cx} {k:Nat}:∀ {xs ys:List (List AV)} {b o:Nat},RepEs c k xs b o->RepEs c k ys b (o+xs.length*k)->RepEs c k (xs++ys) b o
 | [],ys,b,o,_,h=>by simpa using h
 | x::xs,ys,b,o,h,h'=>by simp only [List.cons_append,RepEs] at h ⊢;refine ⟨h.1,RepEs.append h.2 ?_⟩;simp only [List.length_cons,Nat.add_mul,Nat.one_mul] at h';rw [show o+k+xs.length*k=o+(xs.length*k+k) from by omega];exact h'
theorem grown_ok {K:AV->Heap->Prop} {d:Option Tmp} {next:Act->World->Prop} (hc:CW X g0 h w) {xs:List (List AV)} {us:List Value} {k:Nat} {Z:Array Value} {e:TypeId} {cap:Nat}
  (hus:RepVs ⟨g0,live X h,w⟩ xs.flatten us) (hk:∀ x∈xs,x.length=k) (h1:∀ v∈us,v.oneCell'=true) (hk0:0<k) (hlen:xs.length<=AMAX) (hcap:xs.length<=cap)
  (hsz:us.length+Z.size=cap*k) (hq:∀ q,K (.sl k (some q) xs) ((q,.tok)::h)) (hn:NextL X g0 h w K d a next) :
  next (a.put d (.slice (some ⟨w.heap.size,0,none⟩) xs.length cap)) (w.drew.alloc (.cells (us.toArray++Z) e)):=by
 obtain ⟨c1,s1⟩:=hc.drew;obtain ⟨q,f1,f2,st,mk⟩:=c1.newAt (.cells (us.toArray++Z) e) (xs.length*k);have hul:us.length=xs.length*k:=by rw [hus.length,flat_length hk]
 have hcw:=mk .tok (by
  intro p hp;simp only [Gh.set,if_true] at hp;cases hp
  exact ⟨rfl,by simp [Gh.set],us.toArray++Z,e,heap_alloc_new w.drew _⟩)
 have hst:=s1.trans hc.own (st .tok);refine hn _ _ _ _ _ (hq q) hcw ?_ hst;simp only [Rep];have hmono:Cx.Le ⟨g0,live X h,w⟩ _:=Step.le hst;refine ⟨_,cap,rfl,hcap,by unfold LMAX;unfold AMAX at hlen;omega,hk0,by simp,by simp,?_,?_⟩
 ·intro ad ha;simp at ha;subst ha;refine RepEs.flat hk (RepCs.in (us:=us) (l:=us) (RepVs.mono hmono _ _ hus) ?_);intro j u hu;have hj:j<us.length:=(List.getElem?_eq_some_iff.1 hu).1;refine ⟨?_,h1 u (List.mem_of_getElem? hu),?_⟩
  ·show (w.drew.alloc _).cell? ⟨w.drew.heap.size,0+j,none⟩=_;rw [World.cell?_alloc_new,Nat.zero_add,Array.getElem?_append_left (by simpa using hj)];simpa using hu
  intro kk s hs _;have hs':some (q,xs.length*k)=some (kk,s):=by have h2:=hs;simp only [Gh.set] at h2;rwa [if_pos (show w.heap.size=w.drew.heap.size from rfl)] at h2
  cases hs'
  show 0+j<xs.length*k;rw [<- hul];omega
 intro q' hq';cases hq'
 right;refine ⟨_,rfl,rfl,by simp [Gh.set],?_⟩;refine ⟨_,_,_,heap_alloc_new w.drew _,?_⟩;simp only [Array.size_append,List.size_toArray];omega
end Go.Abs
/-
 The abstract layer,part H: all operations that make or turn own objects.
-/
namespace Go.Abs
open Go
variable {P:Program} {n:Nat} {X:Nat->Prop} {g0:Gh} {r:Regs} {h:Heap} {a:Act} {w:World}
theorem CW.sub {h':Heap} (hc:CW X g0 h w) (hsub:∀ k o,(k,o)∈h'->(k,o)∈h) (hnd:(keys h').Nodup):CW X g0 h' w/\Step X g0 h w g0 h' w:=by
 have hk:∀ k,k∈keys h'->k∈keys h:=by intro k hk;simp only [keys,List.mem_map] at hk ⊢;obtain ⟨⟨k',o⟩,hm,rfl⟩:=hk;exact ⟨_,hsub _ _ hm,rfl⟩
 have hst:Step X g0 h w g0 h' w:=
  ⟨rfl,⟨rfl,Nat.le_refl _⟩,rfl,Nat.le_refl _,fun _ _ e=>e,fun _ _ _ e _=>e,fun _ _ _ e _=>e,fun _ _ e=>e,fun _ _ e=>⟨rfl,fun k s hb hm=>e k s hb (hk k hm)⟩,
    fun _ _ _ _ _ cc _ _ e=>⟨cc,e,rfl,fun _ _=>rfl⟩,fun _ _ _ e _ _ _ e' _=>by rw [e] at e';cases e';exact Nat.le_refl _⟩
 refine ⟨⟨hc.own,?_,hnd,fun k hm=>hc.sep k (hk k hm),fun k o hm=>?_⟩,hst⟩
 ·obtain ⟨N,hN⟩:=hc.bound;refine ⟨N,fun k hm=>hN k ?_⟩;rcases hm with hx|hm|hm
  ·exact .inl hx
  ·exact .inr (.inl (hk k hm))
  exact .inr (.inr hm)
 exact ObjRep.keep (c:=⟨g0,live X h,w⟩) (Step.le hst) (hc.obj k o (hsub k o hm)) (fun p _ _=>⟨rfl,rfl⟩) (fun e=>e)
theorem CW.newKey (hc:CW X g0 h w):∃ k,CW X g0 ((k,.tok)::h) w/\Step X g0 h w g0 ((k,.tok)::h) w:=by
 obtain ⟨k,f1,f2,f3,f4⟩:=hc.fresh
 have hst:Step X g0 h w g0 ((k,.tok)::h) w:=by
  refine ⟨rfl,⟨rfl,Nat.le_refl _⟩,rfl,Nat.le_refl _,fun _ _ e=>e,fun _ _ _ e _=>e,fun _ _ _ e _=>e,fun _ _ e=>e,fun b hb e=>⟨rfl,fun k' s hb' hm=>?_⟩,
   fun _ _ _ _ _ cc _ _ e=>⟨cc,e,rfl,fun _ _=>rfl⟩,fun _ _ _ e _ _ _ e' _=>by rw [e] at e';cases e';exact Nat.le_refl _⟩
  simp [keys] at hm;rcases hm with rfl|⟨x,hx⟩
  ·exact f4 _ _ hb'
  exact e k' s hb' (by simp [keys];exact ⟨x,hx⟩)
 refine ⟨k,⟨hc.own,?_,?_,?_,?_⟩,hst⟩
 ·obtain ⟨N,hN⟩:=hc.bound;refine ⟨max N (k+1),fun k' hk'=>?_⟩;by_cases e:k'=k
  ·subst e;omega
  have:k'<N:=by
   rcases hk' with hx|hk'|hp
   ·exact hN _ (.inl hx)
   ·simp [keys,e] at hk';obtain ⟨x,hx⟩:=hk';exact hN _ (.inr (.inl (by simp [keys];exact ⟨x,hx⟩)))
   exact hN _ (.inr (.inr hp))
  omega
 ·simp only [keys,List.map_cons,List.nodup_cons];exact ⟨f2,hc.nodup⟩
 ·intro k' hk';simp [keys] at hk';rcases hk' with rfl|⟨x,hx⟩
  ·exact f1
  exact hc.sep k' (by simp [keys];exact ⟨x,hx⟩)
 intro k' o' hm;rcases List.mem_cons.1 hm with e|hm
 ·cases e
  intro p hp;simp only at hp;rw [f3] at hp;cases hp
 exact ObjRep.keep (c:=⟨g0,live X h,w⟩) (Step.le hst) (hc.obj k' o' hm) (fun p _ _=>⟨rfl,rfl⟩) (fun e=>e)
theorem CW.newVec (hc:CW X g0 h w) {l:List AV} {us:Array Value} (t:TypeId) (hr:RepVs ⟨g0,live X h,w⟩ l us.toList) (h1:∀ u∈us,u.oneCell'=true) :
  ∃ k g',g'.pl k=some ⟨w.heap.size,0,none⟩/\CW X g' ((k,.vec l)::h) (w.alloc (.cells us t))/\Step X g0 h w g' ((k,.vec l)::h) (w.alloc (.cells us t)):=by
 obtain ⟨k,f1,f2,st,mk⟩:=hc.newAt (.cells us t) 0;refine ⟨k,_,by simp [Gh.set],mk (.vec l) ?_,st (.vec l)⟩;have hl:=hr.length;refine ⟨⟨w.heap.size,0,none⟩,us,t,by simp [Gh.set],rfl,by simp [Gh.set],heap_alloc_new w _,by simp at hl ⊢;omega,?_⟩;intro i x hx;obtain ⟨u,hu,hrep⟩:=hr.get i x hx;have hu':us[i]?=some u:=(by simpa using hu);exact ⟨u,by simpa using hu',h1 u (Array.mem_of_getElem? hu'),Rep.mono (Step.le (st (.vec l))) _ _ hrep⟩
theorem made_eq (z:Array Value) (hz:0<z.size):∀ m:Nat,(madeCells z (m*z.size)).toList=(List.replicate m z.toList).flatten
 | 0=>by simp [madeCells]
 | m+1=>by
   have ih:=made_eq z hz m;simp only [madeCells,Array.toList_map,Array.toList_range] at ih ⊢;rw [Nat.add_mul,Nat.one_mul,Nat.add_comm,List.range_add,List.map_append,List.map_map,List.replicate_succ,List.flatten_cons,<- ih];congr 1
   ·apply List.ext_getElem
    ·simp
    intro i h1 h2;simp at h1;simp [Nat.mod_eq_of_lt h1];rw [getElem!_pos z i h1]
   apply List.map_congr_left;intro j _;simp
theorem RepVs.repl {c:Cx} {z:List AV} {us:List Value} (hz:RepVs c z us):∀ m:Nat,RepVs c (repC m z) (List.replicate m us).flatten
 | 0=>by simp [repC,RepVs]
 | m+1=>by have:=RepVs.repl hz m;simp only [repC] at this ⊢;rw [List.replicate_succ,List.replicate_succ,List.flatten_cons,List.flatten_cons];exact RepVs.append hz this
theorem room_ok {l1 l2:Heap} {q:Nat} {k m cap len:Nat} {ad:Addr} {news:List Value} (hc:CW X g0 (l1++(q,.tok)::l2) w)
  (hp:g0.pl q=some ⟨ad.block,ad.off+len*k,none⟩) (hb:World.blockHas w ad.block (ad.off+cap*k)) (hn:news.length=m*k) (hroom:len+m<=cap)
  (h1:∀ v∈news,v.oneCell'=true) :
  (storeCells (⟨ad.block,ad.off+len*k,none⟩:Addr) news).run P w=.ok () (w.setCells ad.block (ad.off+len*k) news) /\
  ∃ q' g',q' ∉ keys (l1++(q,.tok)::l2)/\g'.pl q'=some ⟨ad.block,ad.off+(len+m)*k,none⟩/\g'.ow ad.block=some (q',ad.off+(len+m)*k) /\
   CW X g' (l1++(q',.tok)::l2) (w.setCells ad.block (ad.off+len*k) news) /\
   Step X g0 (l1++(q,.tok)::l2) w g' (l1++(q',.tok)::l2) (w.setCells ad.block (ad.off+len*k) news) /\
   World.blockHas (w.setCells ad.block (ad.off+len*k) news) ad.block (ad.off+cap*k) /\
   ∀ j u,news[j]?=some u->(w.setCells ad.block (ad.off+len*k) news).cell? ⟨ad.block,ad.off+len*k+j,none⟩=some u:=by
 have hob:=hc.obj q .tok (by simp);obtain ⟨_,how,cc,t,hcc⟩:=hob _ hp;simp only at how hcc;obtain ⟨cc2,t2,f2,hcc2,hsz⟩:=hb;rw [hcc] at hcc2;obtain ⟨rfl,rfl,rfl⟩:cc=cc2/\t=t2/\(0,0)=f2:=by injection hcc2 with e;injection e with e1 e2 e3;exact ⟨e1,e2,e3⟩
 have hle:ad.off+len*k+news.length<=cc.size:=by have:=Nat.mul_le_mul_right k hroom;rw [Nat.add_mul] at this;omega
 obtain ⟨cc',e1,e2,e3,e4,e5,e6,e7,e8,e9⟩:=setCells_heap ad.block news (ad.off+len*k) w cc t (0,0) hcc hle;have hqk:q∈keys (l1++(q,.tok)::l2):=by rw [keys_mem];exact .inl rfl
 constructor
 ·have hst:=run_storeCells_cells (P:=P) ad.block (ad.off+len*k) news 0 w
   (fun j hj=>by
     simp only [Nat.add_zero];rw [cell_of_row w ad.block _ cc t _ hcc];have:ad.off+len*k+j<cc.size:=(by omega);simp [this])
   (fun j hj=>frozen_of_row w ad.block _ cc t hcc) h1
  simpa only [Nat.add_zero] using hst
 obtain ⟨q',f1,f2,f3,f4⟩:=hc.fresh;have hqq:q'≠q:=fun e=>f2 (e ▸ hqk)
 have hst:Step X g0 (l1++(q,.tok)::l2) w (g0.set q' (some ⟨ad.block,ad.off+(len+m)*k,none⟩) (some (ad.block,ad.off+(len+m)*k))) (l1++(q',.tok)::l2)
   (w.setCells ad.block (ad.off+len*k) news):=by
  refine ⟨e7,e8,e9,by omega,?_,?_,?_,?_,?_,?_,?_⟩
  ·intro k' p hk';simp only [Gh.set];split
   ·rename_i e;subst e;rw [f3] at hk';cases hk'
   exact hk'
  ·intro b k' s hb hx;simp only [Gh.set];split
   ·rename_i e;subst e;rw [how] at hb;cases hb;exact absurd hx (hc.sep _ hqk)
   exact hb
  ·intro b k' s hb hx;simp only [Gh.set] at hb;split at hb
   ·cases hb;exact absurd hx f1
   exact hb
  ·intro k' hx hp';simp only [Gh.set];split
   ·rename_i e;subst e;exact absurd hx f1
   exact hp'
  ·intro b hb hno;have hne:b≠ad.block:=fun e=>hno q _ (e ▸ how) hqk;refine ⟨e5 b hne,fun k' s hb' hm=>?_⟩;simp only [Gh.set,if_neg hne] at hb';rw [keys_mem] at hm;rcases hm with rfl|hm
   ·exact f4 _ _ hb'
   exact hno k' s hb' ((keys_mem _ _ _ _ _).2 (.inr hm))
  ·intro b k' s hb hm dd tt ff hdd;by_cases e:b=ad.block
   ·subst e;rw [how] at hb;cases hb
    rw [hcc] at hdd;cases hdd
    exact ⟨cc',e1,e2,fun o ho=>e3 o (.inl ho)⟩
   exact ⟨dd,(e5 b e).trans hdd,rfl,fun _ _=>rfl⟩
  intro b k' s hb hm k'' s'' hb'' _;by_cases e:b=ad.block
  ·subst e;rw [how] at hb;cases hb
   simp only [Gh.set,if_true] at hb'';cases hb''
   rw [Nat.add_mul];omega
  simp only [Gh.set,if_neg e] at hb'';rw [hb] at hb'';cases hb'';exact Nat.le_refl _
 refine ⟨q',_,f2,by simp [Gh.set],by simp [Gh.set],?_,hst,⟨cc',t,_,e1,by omega⟩,?_⟩
 ·refine hc.replace hst ?_ (.inr ⟨f1,f2⟩) ?_ ?_ ?_ ?_
  ·intro blk k' s hb;simp only [Gh.set] at hb;split at hb
   ·rename_i e;subst e;have:=hc.own _ _ _ how;omega
   have:=hc.own _ _ _ hb;omega
  ·intro k' hk';by_cases e:k'=q'
   ·exact .inl e
   simp only [Gh.set,if_neg e] at hk';exact .inr hk'
  ·intro blk s k' hb;simp only [Gh.set] at hb;split at hb
   ·cases hb;exact .inl rfl
   exact .inr ⟨_,_,hb⟩
  ·intro blk k' s hb hm
   have hne:blk≠ad.block:=by
    intro e;rw [e,how] at hb;cases hb
    exact hc.notmem hm
   exact ⟨e5 blk hne,by simp only [Gh.set,if_neg hne]⟩
  intro p hp';simp only [Gh.set,if_true] at hp';cases hp'
  exact ⟨rfl,by simp [Gh.set],cc',t,e1⟩
 intro j u hu;have hj:=(List.getElem?_eq_some_iff.1 hu).1;rw [cell_of_row _ ad.block _ cc' t _ e1,e4 j hj,<- hu,List.getElem?_eq_getElem hj]
theorem NextL.of {K K':AV->Heap->Prop} {d:Option Tmp} {next:Act->World->Prop} (hn:NextL X g0 h w K d a next)
  (hk:∀ v h',K' v h'->∃ h'',K v h''/\(∀ k o,(k,o)∈h''->(k,o)∈h')/\((keys h').Nodup->(keys h'').Nodup)) (hc:CW X g0 h w):NextL X g0 h w K' d a next:=by
 intro v h' g' u w' hK c1 c2 c3;obtain ⟨h'',k1,k2,k3⟩:=hk v h' hK;obtain ⟨d1,d2⟩:=c1.sub k2 (k3 c1.nodup);exact hn v h'' g' u w' k1 d1 (Rep.mono (Step.le d2) _ _ c2) (c3.trans hc.own d2)
theorem append_okS {l1 l2:Heap} {q k:Nat} {xs ys:List (List AV)} {u uy:Value} {t tx ty e:TypeId} {K:AV->Heap->Prop} {next:Act->World->Prop} {o:Oper}
  {Q:Exit->Act->World->Prop} (hc:CW X g0 (l1++(q,.tok)::l2) w) (ht:P.underlying t=some (.slice e)) (htx:srcTy P tx=true) (hk0:1<=P.cellsOf e) (hbt:P.bytesOf e<=4096)
  {z:List AV} (hz:zeroCs P e=some z) (hzl:z.length=P.cellsOf e) (hk:k=P.cellsOf e) (hsrc:∃ news:List Value,(∀ w',(Builtin.lenOf uy).run P w'=.ok ys.length w')/\(∀ w':World,w'.heap=w.heap->(Builtin.firstCells k ys.length uy).run P w'=.ok news.toArray w') /\
   RepVs ⟨g0,live X (l1++(q,.tok)::l2),w⟩ ys.flatten news/\(∀ x∈ys,x.length=k)/\(∀ v∈news,v.oneCell'=true)) (hmax:(xs++ys).length<=AMAX)
  (hx:Rep ⟨g0,live X (l1++(q,.tok)::l2),w⟩ (.sl k (some q) xs) u)
  (hrun:∀ s w',(Builtin.append_ #[t,tx] ty #[u,uy]).run P w=.ok s w'->(execOp a.eval o).run P w=.ok (.value s) w')
  (hK:∀ q',∃ h',Upd q .tok q' .tok (l1++(q,.tok)::l2) h'/\K (.sl k (some q') (xs++ys)) h') (hn:NextL X g0 (l1++(q,.tok)::l2) w K o.dst a next):o.wp P a w next Q:=by
 obtain ⟨i,zv,hi,hzv,hzr,hz1⟩:=zeroCs_ok (c:=⟨g0,live X (l1++(q,.tok)::l2),w⟩) hz;have hisz:i.size=P.cellsOf e:=(by simp [Program.cellsOf,hi]);have hib:i.bytes=P.bytesOf e:=(by simp [Program.bytesOf,hi]);have hzs:zv.cells.size=P.cellsOf e:=by have:=hzr.length;simp at this;omega
 obtain ⟨news,n1,n2,n3,n4,n5⟩:=hsrc;have hnl:news.length=ys.length*k:=(by rw [n3.length,flat_length n4]);have hx0:=hx;simp only [Rep] at hx;obtain ⟨base,cap,rfl,x1,x2,x3,x4,x5,x6,x7⟩:=hx
 have hupd:∀ q' h',Upd q .tok q' .tok (l1++(q,.tok)::l2) h'->h'=l1++(q',.tok)::l2:=by
  intro q' h' hu;obtain ⟨m1,m2,e1,e2⟩:=Upd.split hu
  -- keys are different from one another
  have hnd:=hc.nodup
  have key:∀ (l1 m1 l2 m2:Heap),(keys (l1++(q,.tok)::l2)).Nodup->l1++(q,Ob.tok)::l2=m1++(q,.tok)::m2->l1=m1/\l2=m2:=by
   intro l1;induction l1 with
   | nil=>
     intro m1 l2 m2 hnd he;cases m1 with
     | nil=>simp at he;exact ⟨rfl,he⟩
     | cons x m1=>
       simp at he;obtain ⟨rfl,rfl⟩:=he;simp [keys] at hnd
   | cons x l1 ih=>
     intro m1 l2 m2 hnd he;cases m1 with
     | nil=>
       simp at he;obtain ⟨rfl,rfl⟩:=he;simp [keys] at hnd
     | cons y m1=>
       simp at he;obtain ⟨rfl,he⟩:=he;have hnd':(keys (l1++(q,.tok)::l2)).Nodup:=by simp only [keys,List.cons_append,List.map_cons,List.nodup_cons] at hnd ⊢;exact hnd.2
       obtain ⟨rfl,rfl⟩:=ih m1 l2 m2 hnd' he;exact ⟨rfl,rfl⟩
  obtain ⟨rfl,rfl⟩:=key _ _ _ _ hnd e1;exact e2
 by_cases hroom:xs.length+ys.length<=cap
 ·by_cases hm:ys=[]
  · -- nothing
   subst hm;have hn0:news=[]:=List.eq_nil_of_length_eq_zero (by rw [hnl];simp);subst hn0;obtain ⟨h',hu,hK⟩:=hK q;have:=hupd _ _ hu;subst this;refine wp_value (w':=w) (hrun _ _ (run_append_room' (w':=w) (m:=0) (i:=i) ht htx hi (by simpa using n1) (by simpa [hisz,hk] using n2 w rfl) (by omega) ?_ (fun _=>rfl))) ?_
   ·intro ad _;simp [storeCells]
   refine hn _ _ g0 _ w hK hc ?_ (Step.refl _ _ _ _);simpa using hx0
  have hpos:0<ys.length:=List.length_pos_iff.2 hm;rcases x7 q rfl with x7|⟨ad,ha,hs,hp,hbh⟩
  ·omega
  subst ha;obtain ⟨st,q',g',f1,f2,f3,f4,f5,f6,f7⟩:=room_ok (P:=P) (m:=ys.length) hc hp hbh hnl hroom n5;obtain ⟨h',hu,hK⟩:=hK q';have:=hupd _ _ hu;subst this
  have hadd:∀ j,ad.add j=⟨ad.block,ad.off+j,none⟩:=by
   intro j;unfold Addr.add;split
   ·rename_i h0;rw [h0];cases ad;simp_all
   rfl
  refine wp_value (hrun _ _ (run_append_room' (m:=ys.length) (i:=i) ht htx hi n1 (by rw [hisz,<- hk];exact n2 w rfl) hroom
   (w':=w.setCells ad.block (ad.off+xs.length*k) news) ?_ (fun e=>by cases e))) ?_
  ·intro ad' he;cases he
   rw [hadd,hisz,<- hk];exact st
  refine hn _ _ g' _ _ hK f4 ?_ f5;simp only [Rep];refine ⟨some ad,cap,by simp,by simpa using hroom,by unfold LMAX;unfold AMAX at hmax;omega,x3,by simp,fun a' ha' _=>by cases ha';exact hs,?_,?_⟩
  ·intro a' ha';cases ha'
   refine RepEs.append (RepEs.mono (Step.le f5) _ _ _ _ (x6 ad rfl)) ?_;refine RepEs.flat n4 (RepCs.in (us:=news) (l:=news) (RepVs.mono (Step.le f5) _ _ n3) ?_);intro j v hj;have hjl:=(List.getElem?_eq_some_iff.1 hj).1;refine ⟨f7 j v hj,n5 v (List.mem_of_getElem? hj),?_⟩;intro kk s hs' _;simp only at hs';rw [f3] at hs';cases hs'
   rw [Nat.add_mul];omega
  intro q2 hq2;cases hq2
  exact .inr ⟨ad,rfl,hs,by simp only [f2,List.length_append],f6⟩
 -- a new row
 obtain ⟨olds,o1,o2,o3,o4,o5⟩:=src_ok (k:=k) (y:=.sl k (some q) xs) (ys:=xs) (c:=⟨g0,live X (l1++(q,.tok)::l2),w⟩) (by simp [srcOf,Nat.beq_refl]) hx0;have hg:cap<xs.length+ys.length:=by omega
 have hrn:=run_append_grow' (P:=P) (w:=w) (ty:=ty) (i:=i) (z:=zv) (m:=ys.length) ht htx hi hzv n1 (by rw [hisz,<- hk];exact n2 w.drew rfl) (base:=base)
  (by rw [hisz,<- hk];exact o2 w.drew rfl) hg (by simpa using hmax) (by omega)
 refine wp_value (hrun _ _ hrn) ?_;have hcapw:=grownCap_ge w (xs.length+ys.length) cap e
 have hfin:=grown_ok (K:=fun v h'=>∃ q',v=.sl k (some q') (xs++ys)/\h'=(q',.tok)::(l1++(q,.tok)::l2)) (xs:=xs++ys) (us:=olds++news) (k:=k) (e:=e)
  (cap:=grownCap w (xs.length+ys.length) cap e) (Z:=Builtin.zeroCells zv.cells (grownCap w (xs.length+ys.length) cap e - (xs.length+ys.length)))
  (d:=o.dst) (a:=a) (next:=next) hc (by simpa using RepVs.append o3 n3) (by intro x hx;rcases List.mem_append.1 hx with h|h;exact o4 x h;exact n4 x h)
  (by intro v hv;rcases List.mem_append.1 hv with h|h;exact o5 v h;exact n5 v h) x3 hmax (by simpa using hcapw) ?_ (fun q'=>⟨q',rfl,rfl⟩) (hn.of ?_ hc)
 ·simpa using hfin
 ·rw [size_zeroCells,hzs,<- hk,List.length_append,hnl,o3.length,flat_length o4,<- Nat.add_mul,<- Nat.add_mul];congr 1;omega
 rintro v h' ⟨q',rfl,rfl⟩;obtain ⟨h',hu,hK⟩:=hK q';have:=hupd _ _ hu;subst this;refine ⟨_,hK,?_,?_⟩
 ·intro k' o' hm;simp only [List.mem_append,List.mem_cons] at hm ⊢;rcases hm with h|h|h
  ·exact .inr (.inl h)
  ·exact .inl h
  exact .inr (.inr (.inr h))
 intro hnd;rw [keys_app];simp only [keys,List.map_cons,List.map_append,List.nodup_cons,List.nodup_append,List.mem_append,List.mem_cons,not_or] at hnd ⊢;obtain ⟨⟨a1,a2,a3⟩,b1,⟨b2,b3⟩,b4⟩:=hnd;refine ⟨b1,⟨a3,b3⟩,fun x hx y hy=>?_⟩;rcases hy with rfl|hy
 ·rintro rfl;exact a1 hx
 exact b4 x hx y (.inr hy)
theorem append_ok {l1 l2:Heap} {q k:Nat} {xs ys:List (List AV)} {y:AV} {u uy:Value} {t tx ty e:TypeId} {K:AV->Heap->Prop} {next:Act->World->Prop} {o:Oper}
  {Q:Exit->Act->World->Prop} (hc:CW X g0 (l1++(q,.tok)::l2) w) (ht:P.underlying t=some (.slice e)) (htx:srcTy P tx=true) (hk0:1<=P.cellsOf e) (hbt:P.bytesOf e<=4096)
  {z:List AV} (hz:zeroCs P e=some z) (hzl:z.length=P.cellsOf e) (hk:k=P.cellsOf e) (hys:srcOf k y=some ys) (hmax:(xs++ys).length<=AMAX)
  (hx:Rep ⟨g0,live X (l1++(q,.tok)::l2),w⟩ (.sl k (some q) xs) u) (hy:Rep ⟨g0,live X (l1++(q,.tok)::l2),w⟩ y uy)
  (hrun:∀ s w',(Builtin.append_ #[t,tx] ty #[u,uy]).run P w=.ok s w'->(execOp a.eval o).run P w=.ok (.value s) w')
  (hK:∀ q',∃ h',Upd q .tok q' .tok (l1++(q,.tok)::l2) h'/\K (.sl k (some q') (xs++ys)) h') (hn:NextL X g0 (l1++(q,.tok)::l2) w K o.dst a next):o.wp P a w next Q:=by
 exact append_okS hc ht htx hk0 hbt hz hzl hk (src_ok hys hy) hmax hx hrun hK hn
end Go.Abs
/-
 The abstract layer,part I0: ranging over an own map.
-/
namespace Go.Abs
open Go
def Alk (w1 w:World):Prop:=w1.Alike w/\(w1.tape=w.tape/\w.drawn<=w1.drawn)
variable {P:Program} {n:Nat} {X:Nat->Prop} {g0:Gh} {r:Regs} {h:Heap} {a:Act} {w:World}
theorem EntsRep.len {c:Cx}:∀ {es:List (AV × AV)} {ents:List MapEntry},EntsRep c es ents->es.length=ents.length
 | [],_,h=>by rw [h];rfl
 | x::es,_,h=>by obtain ⟨e,r,rfl,_,_,h⟩:=h;simp [EntsRep.len h]
theorem EntsRep.get {c:Cx}:∀ {es:List (AV × AV)} {ents:List MapEntry} {i:Nat} {x:AV × AV},EntsRep c es ents->es[i]?=some x->∃ e,ents[i]?=some e/\Rep c x.1 e.key/\Rep c x.2 e.val
 | [],_,i,x,_,hx=>by cases hx
 | y::es,_,0,x,h,hx=>by obtain ⟨e,r,rfl,a1,a2,h⟩:=h;simp at hx;subst hx;exact ⟨e,rfl,a1,a2⟩
 | y::es,_,i+1,x,h,hx=>by obtain ⟨e,r,rfl,a1,a2,h⟩:=h;obtain ⟨e',h1,h2⟩:=EntsRep.get h (by simpa using hx);exact ⟨e',by simpa using h1,h2⟩
theorem map_ranged {l1 l2:Heap} {b:Nat} {es:List (AV × AV)} (hc:CW X g0 (l1++(b,.map es)::l2) w):∃ p bs cl ents,bs.length=es.length/\bs.Nodup/\g0.pl b=some p/\w.heap[p.block]?=some (.map ents cl) /\
  CW X g0 (l1++(b,.rmap es bs cl)::l2) w/\Step X g0 (l1++(b,.map es)::l2) w g0 (l1++(b,.rmap es bs cl)::l2) w:=by
 obtain ⟨p,cl,ents,o1,o2,o3,o4,o5,o6⟩:=hc.obj b (.map es) (by simp)
 have hst:Step X g0 (l1++(b,.map es)::l2) w g0 (l1++(b,.rmap es (ents.toList.map (·.born)) cl)::l2) w:=by
  refine ⟨rfl,⟨rfl,Nat.le_refl _⟩,rfl,Nat.le_refl _,fun _ _ e=>e,fun _ _ _ e _=>e,fun _ _ _ e _=>e,fun _ _ e=>e,?_,?_,?_⟩
  ·intro blk hlt hn;refine ⟨rfl,fun k s hk hm=>hn k s hk ?_⟩;rw [keys_mem] at hm ⊢;exact hm
  ·intro blk k s hk hm dd tt ff hdd;exact ⟨dd,hdd,rfl,fun _ _=>rfl⟩
  intro blk k s hk _ k' s' hk' _;rw [hk] at hk';cases hk';exact Nat.le_refl _
 refine ⟨p,_,cl,ents,by simp [EntsRep.len o4],o6,o1,o3,?_,hst⟩;refine hc.replace hst hc.own (.inl rfl) (fun k hk=>.inr hk) (fun blk s k hk=>.inr ⟨blk,s,hk⟩) (fun blk k s hk hm=>⟨rfl,rfl⟩) ?_;exact ⟨p,ents,o1,o2,o3,EntsRep.mono (Step.le hst) o4,o5,o6,rfl⟩
theorem iter_store {l1 l2:Heap} {b m cl:Nat} {seen seen':List Nat} {p pm:Addr} {sa sa':Array Nat} {w1:World} (hc:CW X g0 (l1++(b,.iter m cl seen)::l2) w) (ha:Alk w1 w) (hp:g0.pl b=some p) (ho:g0.ow p.block=some (b,0))
  (hb:w.heap[p.block]?=some (.mapIter (some pm.block) cl sa cl)) (hpm:g0.pl m=some pm) (hs:sa'.toList=seen') :
  CW X g0 (l1++(b,.iter m cl seen')::l2) { w1 with heap:=w1.heap.setIfInBounds p.block (.mapIter (some pm.block) cl sa' cl) } /\
  Step X g0 (l1++(b,.iter m cl seen)::l2) w g0 (l1++(b,.iter m cl seen')::l2) { w1 with heap:=w1.heap.setIfInBounds p.block (.mapIter (some pm.block) cl sa' cl) }:=by
 obtain ⟨⟨a1,a2,a3⟩,a4⟩:=ha;have hlt:p.block<w.heap.size:=(Array.getElem?_eq_some_iff.1 hb).1;have hoth:∀ blk,blk≠p.block->(w1.heap.setIfInBounds p.block (.mapIter (some pm.block) cl sa' cl))[blk]?=w.heap[blk]?:=fun blk hne=>by rw [Array.getElem?_setIfInBounds_ne (Ne.symm hne),a1]
 have hbk:b∈keys (l1++(b,.iter m cl seen)::l2):=by rw [keys_mem];exact .inl rfl
 have hst:Step X g0 (l1++(b,.iter m cl seen)::l2) w g0 (l1++(b,.iter m cl seen')::l2) { w1 with heap:=w1.heap.setIfInBounds p.block (.mapIter (some pm.block) cl sa' cl) }:=by
  refine ⟨a2,a4,a3,by simp [a1],fun _ _ e=>e,fun _ _ _ e _=>e,fun _ _ _ e _=>e,fun _ _ e=>e,?_,?_,?_⟩
  ·intro blk hlt hn;have hne:blk≠p.block:=fun e=>hn b 0 (e ▸ ho) hbk;refine ⟨hoth blk hne,fun k s hk hm=>hn k s hk ?_⟩;rw [keys_mem] at hm ⊢;exact hm
  ·intro blk k s hk hm dd tt ff hdd;by_cases e:blk=p.block
   ·subst e;rw [hb] at hdd;cases hdd
   exact ⟨dd,(hoth blk e).trans hdd,rfl,fun _ _=>rfl⟩
  intro blk k s hk _ k' s' hk' _;rw [hk] at hk';cases hk';exact Nat.le_refl _
 refine ⟨?_,hst⟩;refine hc.replace hst (fun blk k s hk=>by have:=hc.own _ _ _ hk;simpa [a1] using this) (.inl rfl) (fun k hk=>.inr hk) (fun blk s k hk=>.inr ⟨blk,s,hk⟩) ?_ ?_
 ·intro blk k s hk hm
  have hne:blk≠p.block:=by
   intro e;rw [e,ho] at hk;cases hk
   exact hc.notmem hm
  exact ⟨hoth blk hne,rfl⟩
 exact ⟨p,pm,sa',hp,ho,by simp [hlt,a1],hpm,hs⟩
theorem run_next_any (ty:TypeId) (bi bm since:Nat) (seen:Array Nat) (es:Array MapEntry) (hi:w.heap[bi]?=some (.mapIter (some bm) since seen since)) (hb:w.heap[bm]?=some (.map es since)) (hold:∀ x∈es.toList,x.born<since) :
  ((leftOf es seen).size=0/\(Instr.next (.pointer (some ⟨bi,0,none⟩)) false ty).run P w=.ok (.tuple #[.bool false]) w) \/
  ∃ e∈(leftOf es seen).toList,∃ w1:World,Alk w1 w/\(Instr.next (.pointer (some ⟨bi,0,none⟩)) false ty).run P w=.ok (.tuple #[.bool true,e.key,e.val]) { w1 with heap:=w1.heap.setIfInBounds bi (.mapIter (some bm) since (seen.push e.born) since) }:=by
 simp only [Instr.next,getObj,Sem.run_bind,Sem.run,hi,hb,Result.andThen,next_test_false seen es since since hold (Nat.le_refl _),Bool.false_eq_true,if_false];unfold leftOf;have hmem:∀ x∈(Array.filter (fun e=>!seen.contains e.born) es).toList,x.born<since:=fun x hx=>hold x (by simp at hx ⊢;exact hx.1);generalize Array.filter (fun e=>!seen.contains e.born) es=L at hmem ⊢;have e1:L.filter (fun x=>decide (x.born<since))=L:=Array.filter_eq_self.2 (fun x hx=>by simpa using hmem x (by simpa using hx));have e2:L.filter (fun x=>decide (x.born>=since))=#[]:=by rw [Array.filter_eq_empty_iff];intro x hx;have:=hmem x (by simpa using hx);simp;omega
 simp only [e1,e2,Array.append_empty];by_cases h0:L.size=0
 ·left;have:L=#[]:=Array.eq_empty_of_size_eq_zero h0;subst this;refine ⟨rfl,?_⟩;simp [choose,Sem.run,Question.forced]
 right;have hne:L.isEmpty=false:=(by simp [Array.isEmpty,h0]);simp only [hne,Bool.false_eq_true,if_false,Array.empty_append,Array.size_map]
 have hch:∃ (j:Nat) (w1:World),j<L.size/\Alk w1 w/\(choose (Question.mapNext L.size)).run P w=.ok j w1:=by
  by_cases hf:L.size<=1
  ·exact ⟨0,w,by omega,⟨⟨rfl,rfl,rfl⟩,rfl,Nat.le_refl _⟩,by simp [choose,Sem.run,Question.forced,hf]⟩
  exact ⟨_,w.drew,Nat.mod_lt _ (by omega),⟨⟨rfl,rfl,rfl⟩,rfl,Nat.le_succ _⟩,by
   simp only [choose,Sem.run,Question.forced,decide_eq_true_eq,hf,if_false,Question.cut];rfl⟩
 obtain ⟨j,w1,hj,hal,hrun⟩:=hch;refine ⟨L[j],by simp,w1,hal,?_⟩;have hset:(setObj bi (.mapIter (some bm) since (seen.push L[j].born) since)).run P w1=.ok () { w1 with heap:=w1.heap.setIfInBounds bi (.mapIter (some bm) since (seen.push L[j].born) since) }:=(by simp [setObj,Sem.run,hal.1.1,hi]);simp only [hrun,Array.getElem?_map,Array.getElem?_eq_getElem hj,Option.map_some,Sem.run_bind,hset,Result.andThen];rfl
theorem run_entry_any (bi bm since c0:Nat) (seen:Array Nat) (es:Array MapEntry) (e:MapEntry) (hi:w.heap[bi]?=some (.mapIter (some bm) since seen c0)) (hb:w.heap[bm]?=some (.map es c0)) (hs:seen.back?=some e.born) (he:e∈es.toList) (hn:(es.toList.map (·.born)).Nodup) :
  (Instr.entry (.pointer (some ⟨bi,0,none⟩))).run P w=.ok (.tuple #[e.key,e.val]) w:=by
 have hf:es.find? (·.born == e.born)=some e:=by rw [<- Array.find?_toList];exact find_born e es.toList hn he
 simp only [Instr.entry,getObj,Sem.run_bind,Sem.run,hi,hb,hs,Result.andThen,bne_self_eq_false,Bool.false_eq_true,if_false,hf];rfl
end Go.Abs
