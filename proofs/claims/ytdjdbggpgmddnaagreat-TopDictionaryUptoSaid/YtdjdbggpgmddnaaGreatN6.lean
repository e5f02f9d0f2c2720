/- Small laws for the walks and contracts of functions; each theorem names its conditions. -/
import Derived.Test.YtdjdbggpgmddnaaGreatN5
import Derived.Lib.AppendZerosOnto
/-
 The abstract layer,part I1: own rows that grow.
-/
set_option linter.unusedVariables false
set_option linter.unusedSimpArgs false
namespace Go.Abs
open Go
variable {P:Program} {n:Nat} {X:Nat->Prop} {g0:Gh} {r:Regs} {h:Heap} {a:Act} {w:World}
theorem split_uniq:∀ {l1 l2 m1 m2:Heap} {b:Nat} {o o':Ob},(keys (l1++(b,o)::l2)).Nodup->l1++(b,o)::l2=m1++(b,o')::m2->l1=m1/\l2=m2
 | [],l2,[],m2,b,o,o',hn,e=>by simp at e;exact ⟨rfl,e.2⟩
 | [],l2,y::m1,m2,b,o,o',hn,e=>by simp at e;obtain ⟨rfl,rfl⟩:=e;simp [keys] at hn
 | x::l1,l2,[],m2,b,o,o',hn,e=>by simp at e;obtain ⟨rfl,rfl⟩:=e;simp [keys] at hn
 | x::l1,l2,y::m1,m2,b,o,o',hn,e=>by
   simp at e;obtain ⟨rfl,e⟩:=e;have hn':(keys (l1++(b,o)::l2)).Nodup:=by have:keys (x::l1++(b,o)::l2)=x.1::keys (l1++(b,o)::l2):=rfl;rw [this] at hn;exact (List.nodup_cons.1 hn).2
   obtain ⟨rfl,rfl⟩:=split_uniq hn' e;exact ⟨rfl,rfl⟩
theorem CW.newVecZ (hc:CW X g0 h w) {l:List AV} {us:List Value} {Z:Array Value} (t:TypeId) (hr:RepVs ⟨g0,live X h,w⟩ l us) (h1:∀ u∈us,u.oneCell'=true) :
  ∃ k g',g'.pl k=some ⟨w.heap.size,0,none⟩/\CW X g' ((k,.vec l)::h) (w.alloc (.cells (us.toArray++Z) t))/\Step X g0 h w g' ((k,.vec l)::h) (w.alloc (.cells (us.toArray++Z) t)):=by
 obtain ⟨k,f1,f2,st,mk⟩:=hc.newAt (.cells (us.toArray++Z) t) 0;refine ⟨k,_,by simp [Gh.set],mk (.vec l) ?_,st (.vec l)⟩;have hl:=hr.length;refine ⟨⟨w.heap.size,0,none⟩,us.toArray++Z,t,by simp [Gh.set],rfl,by simp [Gh.set],heap_alloc_new w _,by simp;omega,?_⟩;intro i x hx;obtain ⟨u,hu,hrep⟩:=hr.get i x hx;have hlt:i<us.length:=(List.getElem?_eq_some_iff.1 hu).1;refine ⟨u,?_,h1 u (List.mem_of_getElem? hu),Rep.mono (Step.le (st (.vec l))) _ _ hrep⟩;rw [Nat.zero_add,Array.getElem?_append_left (by simpa using hlt)];simpa using hu
theorem vec_extend {l1 l2:Heap} {b:Nat} {cs l:List AV} {us:List Value} {p:Addr} {N:Nat} (hc:CW X g0 (l1++(b,.vec cs)::l2) w) (hp:g0.pl b=some p) (hb:World.blockHas w p.block N) (hle:p.off+cs.length+l.length<=N)
  (hus:RepVs ⟨g0,live X (l1++(b,.vec cs)::l2),w⟩ l us) (ho:∀ u∈us,u.oneCell'=true) :
  (storeCells (⟨p.block,p.off+cs.length,none⟩:Addr) us).run P w=.ok () (w.setCells p.block (p.off+cs.length) us) /\
  World.blockHas (w.setCells p.block (p.off+cs.length) us) p.block N /\
   CW X g0 (l1++(b,.vec (cs++l))::l2) (w.setCells p.block (p.off+cs.length) us) /\
   Step X g0 (l1++(b,.vec cs)::l2) w g0 (l1++(b,.vec (cs++l))::l2) (w.setCells p.block (p.off+cs.length) us):=by
 have hob:=hc.obj b (.vec cs) (by simp);obtain ⟨p',cc,t,h1,h2,h3,h4,h5,h6⟩:=hob;simp only at h1 h3 h4;rw [hp] at h1;cases h1
 obtain ⟨cc0,t0,f0,q1,q2⟩:=hb;rw [h4] at q1;cases q1
 have hlen:=hus.length;have hfit:p.off+cs.length+us.length<=cc.size:=(by omega);obtain ⟨cc',e1,e2,e3,e4,e5,e6,e7,e8,e9⟩:=setCells_heap p.block us (p.off+cs.length) w cc t (0,0) h4 hfit;have hbk:b∈keys (l1++(b,.vec cs)::l2):=by rw [keys_mem];exact .inl rfl
 have hst:Step X g0 (l1++(b,.vec cs)::l2) w g0 (l1++(b,.vec (cs++l))::l2) (w.setCells p.block (p.off+cs.length) us):=by
  refine ⟨e7,e8,e9,by omega,fun _ _ e=>e,fun _ _ _ e _=>e,fun _ _ _ e _=>e,fun _ _ e=>e,?_,?_,?_⟩
  ·intro blk hb hn;have hne:blk≠p.block:=fun e=>hn b 0 (e ▸ h3) hbk;refine ⟨e5 blk hne,fun k s hk hm=>hn k s hk ?_⟩;rw [keys_mem] at hm ⊢;exact hm
  ·intro blk k s hk hm dd tt ff hdd;by_cases e:blk=p.block
   ·subst e;rw [h3] at hk;cases hk
    rw [h4] at hdd;cases hdd
    exact ⟨cc',e1,e2,fun o ho=>by omega⟩
   exact ⟨dd,(e5 blk e).trans hdd,rfl,fun _ _=>rfl⟩
  intro blk k s hk _ k' s' hk' _;rw [hk] at hk';cases hk';exact Nat.le_refl _
 refine ⟨?_,⟨cc',t,_,e1,by omega⟩,?_,hst⟩
 ·have hst:=run_storeCells_cells (P:=P) p.block (p.off+cs.length) us 0 w
   (fun j hj=>by
     simp only [Nat.add_zero];rw [cell_of_row w p.block _ cc t _ h4];have:p.off+cs.length+j<cc.size:=(by omega);simp [this])
   (fun j hj=>frozen_of_row w p.block _ cc t h4) ho
  simpa only [Nat.add_zero] using hst
 refine hc.replace hst (fun blk k s hk=>by have:=hc.own _ _ _ hk;omega) (.inl rfl) (fun k hk=>.inr hk) (fun blk s k hk=>.inr ⟨blk,s,hk⟩) ?_ ?_
 ·intro blk k s hk hm
  have hne:blk≠p.block:=by
   intro e;rw [e,h3] at hk;cases hk
   exact hc.notmem hm
  exact ⟨e5 blk hne,rfl⟩
 refine ⟨p,cc',t,hp,h2,h3,e1,by simp;omega,?_⟩;intro i x hx;by_cases hi:i<cs.length
 ·rw [List.getElem?_append_left hi] at hx;obtain ⟨u,hu,ho',hr⟩:=h6 i x hx;exact ⟨u,by rw [e3 _ (by omega)];exact hu,ho',Rep.mono (Step.le hst) _ _ hr⟩
 rw [List.getElem?_append_right (by omega)] at hx;obtain ⟨u,hu,hr⟩:=hus.get _ _ hx;have hlt:i - cs.length<us.length:=(List.getElem?_eq_some_iff.1 hu).1;refine ⟨u,?_,ho u (List.mem_of_getElem? hu),Rep.mono (Step.le hst) _ _ hr⟩;have:=e4 (i - cs.length) hlt;rw [show p.off+cs.length+(i - cs.length)=p.off+i from by omega] at this;rw [this,<- hu,List.getElem?_eq_getElem hlt]
theorem own_append {l1 l2:Heap} {b k n:Nat} {cs:List AV} {ys:List (List AV)} {y:AV} {u uy:Value} {t tx ty e:TypeId} {K:AV->Heap->Prop} {next:Act->World->Prop} {o:Oper}
  {Q:Exit->Act->World->Prop} (hc:CW X g0 (l1++(b,.vec cs)::l2) w) (ht:P.underlying t=some (.slice e)) (htx:srcTy P tx=true) (hk0:1<=P.cellsOf e) (hbt:P.bytesOf e<=4096)
  {z:List AV} (hz:zeroCs P e=some z) (hzl:z.length=P.cellsOf e) (hk:k=P.cellsOf e) (hys:srcOf k y=some ys) (hcs:cs.length=n*k) (hmax:n+ys.length<=AMAX)
  (hx:Rep ⟨g0,live X (l1++(b,.vec cs)::l2),w⟩ (.osl b 0 n k) u) (hy:Rep ⟨g0,live X (l1++(b,.vec cs)::l2),w⟩ y uy)
  (hrun:∀ s w',(Builtin.append_ #[t,tx] ty #[u,uy]).run P w=.ok s w'->(execOp a.eval o).run P w=.ok (.value s) w')
  (hK:∀ b',K (.osl b' 0 (n+ys.length) k) (l1++(b',.vec (cs++ys.flatten))::l2)) (hn:NextL X g0 (l1++(b,.vec cs)::l2) w K o.dst a next):o.wp P a w next Q:=by
 obtain ⟨i,zv,hi,hzv,hzr,hz1⟩:=zeroCs_ok (c:=⟨g0,live X (l1++(b,.vec cs)::l2),w⟩) hz;have hisz:i.size=P.cellsOf e:=(by simp [Program.cellsOf,hi]);have hib:i.bytes=P.bytesOf e:=(by simp [Program.bytesOf,hi]);have hzs:zv.cells.size=P.cellsOf e:=by have:=hzr.length;simp at this;omega
 obtain ⟨news,n1,n2,n3,n4,n5⟩:=src_ok (c:=⟨g0,live X (l1++(b,.vec cs)::l2),w⟩) hys hy;have hnl:news.length=ys.length*k:=(by rw [n3.length,flat_length n4]);obtain ⟨q,cc,tt,h1,h2,h3,h4,h5,h6⟩:=hc.obj b (.vec cs) (by simp);simp only at h1 h3 h4;rw [Rep] at hx;obtain ⟨p,cap,o',hp,hs,rfl,x2,x3,x4,x5,x6,x7⟩:=hx;simp only at hp x5;rw [h1] at hp;cases hp
 by_cases hroom:n+ys.length<=cap
 ·by_cases hc0:cap=0
  ·have hn0:n=0:=(by omega);have hy0:ys=[]:=List.eq_nil_of_length_eq_zero (by omega);subst hc0 hn0 hy0;have hcs0:cs=[]:=List.eq_nil_of_length_eq_zero (by simpa using hcs);subst hcs0;have hn0:news=[]:=List.eq_nil_of_length_eq_zero (by simpa using hnl);subst hn0;refine wp_value (hrun _ _ (run_append_room' (m:=0) (i:=i) ht htx hi (by simpa using n1) (by simpa [hisz,hk] using n2 w rfl) (by omega) (w':=w) (fun ad' _=>rfl) (fun e=>by cases e))) ?_;refine hn _ _ g0 _ _ (hK b) (by simpa using hc) ?_ (by simpa using Step.refl _ _ _ _);rw [Rep];exact ⟨q,0,o',h1,h2,rfl,by simp,by simp,x4,x5,fun h=>absurd h (by omega),by unfold CAPM;omega⟩
  have hof:=x6 (by omega);subst hof;have hle:q.off+cs.length+ys.flatten.length<=q.off+0+cap*k:=by rw [flat_length n4,hcs,Nat.add_assoc,<- Nat.add_mul];have:=Nat.mul_le_mul_right k hroom;omega
  obtain ⟨s1,s2,s3,s4⟩:=vec_extend (P:=P) hc h1 x5 hle n3 n5;refine wp_value (hrun _ _ (run_append_room' (m:=ys.length) (i:=i) ht htx hi n1 (by rw [hisz,<- hk];exact n2 w rfl) hroom (w':=w.setCells q.block (q.off+cs.length) news) ?_ (fun e=>by cases e))) ?_
  ·intro ad' he;cases he
   have hadd:(⟨q.block,q.off+0,none⟩:Addr).add (n*i.size)=⟨q.block,q.off+cs.length,none⟩:=by
    rw [hcs,hisz,<- hk];unfold Addr.add;split
    ·rename_i h0;rw [h0]
    simp
   rw [hadd];exact s1
  refine hn _ _ g0 _ _ (hK b) s3 ?_ s4;rw [Rep];exact ⟨q,cap,0,h1,h2,rfl,hroom,by unfold LMAX;unfold AMAX at hmax;omega,x4,s2,fun _=>rfl,x7⟩
 have hg:cap<n+ys.length:=by omega
 -- the old cells
 have hold:∃ olds:List Value,olds.length=cs.length/\(∀ (j:Nat) v,olds[j]?=some v->cc[q.off+j]?=some v)/\RepVs ⟨g0,live X (l1++(b,.vec cs)::l2),w⟩ cs olds/\∀ v∈olds,v.oneCell'=true:=by
  have key:∀ (l:List AV) (o:Nat),(∀ i x,l[i]?=some x->∃ u,cc[q.off+(o+i)]?=some u/\u.oneCell'=true/\Rep ⟨g0,live X (l1++(b,.vec cs)::l2),w⟩ x u) ->
    ∃ olds:List Value,olds.length=l.length/\(∀ (j:Nat) v,olds[j]?=some v->cc[q.off+(o+j)]?=some v)/\RepVs ⟨g0,live X (l1++(b,.vec cs)::l2),w⟩ l olds/\∀ v∈olds,v.oneCell'=true:=by
   intro l;induction l with
   | nil=>intro o _;exact ⟨[],rfl,by simp,by simp [RepVs],by simp⟩
   | cons x l ih=>
     intro o hh;obtain ⟨u,a1,a2,a3⟩:=hh 0 x (by simp)
     obtain ⟨olds,b1,b2,b3,b4⟩:=ih (o+1) (fun i y hy=>by
      obtain ⟨v,c1,c2⟩:=hh (i+1) y (by simpa using hy);exact ⟨v,by rw [show o+1+i=o+(i+1) from by omega];exact c1,c2⟩)
     refine ⟨u::olds,by simp [b1],?_,by simp only [RepVs];exact ⟨_,_,rfl,a3,b3⟩,?_⟩
     ·intro j v hj;cases j with
      | zero=>simp at hj;subst hj;simpa using a1
      | succ j=>
        have:=b2 j v (by simpa using hj);rw [show o+(j+1)=o+1+j from by omega];exact this
     intro v hv;rcases List.mem_cons.1 hv with rfl|hv
     ·exact a2
     exact b4 v hv
  have:=key cs 0 (fun i x hx=>by simpa using h6 i x hx);simpa using this
 obtain ⟨olds,o1,o2,o3,o4⟩:=hold
 have hrn:=run_append_grow' (P:=P) (w:=w) (ty:=ty) (i:=i) (z:=zv) (m:=ys.length) (olds:=olds) ht htx hi hzv n1 (by rw [hisz,<- hk];exact n2 w.drew rfl) (base:=some ⟨q.block,q.off+o',none⟩) (sLen:=n)
  (by
    rw [hisz,<- hk];refine run_firstCells_some w.drew k n ⟨q.block,q.off+o',none⟩ n cap olds (by rw [o1,hcs]) (fun j v hj=>?_);have hjl:=(List.getElem?_eq_some_iff.1 hj).1;rw [o1,hcs] at hjl
    have hn1:0<n:=by
     rcases Nat.eq_zero_or_pos n with h|h
     ·subst h;simp at hjl
     exact h
    have hof:=x6 (by omega);subst hof
    have hadd:(⟨q.block,q.off+0,none⟩:Addr).add j=⟨q.block,q.off+j,none⟩:=by
     unfold Addr.add;split
     ·rename_i h0;rw [h0]
     simp
    rw [hadd];have:w.drew.heap[q.block]?=some (.cells cc tt (0,0)):=h4;rw [cell_of_row w.drew q.block _ cc tt _ this];exact o2 j v hj) hg hmax (by omega)
 refine wp_value (hrun _ _ hrn) ?_;obtain ⟨c1,s1⟩:=hc.drew;have hcapw:=grownCap_ge w (n+ys.length) cap e
 obtain ⟨b',g',k1,k2,k3⟩:=c1.newVecZ (l:=cs++ys.flatten) (us:=olds++news) (Z:=Builtin.zeroCells zv.cells (grownCap w (n+ys.length) cap e - (n+ys.length))) e
  (RepVs.mono (Step.le s1) _ _ (RepVs.append o3 n3)) (by intro v hv;rcases List.mem_append.1 hv with h|h;exact o4 v h;exact n5 v h)
 have hst:=s1.trans hc.own k3
 have hsub:∀ k' o',(k',o')∈l1++(b',Ob.vec (cs++ys.flatten))::l2->(k',o')∈(b',Ob.vec (cs++ys.flatten))::(l1++(b,Ob.vec cs)::l2):=by
  intro k' o' hm;simp only [List.mem_append,List.mem_cons] at hm ⊢;rcases hm with h|h|h
  ·exact .inr (.inl h)
  ·exact .inl h
  exact .inr (.inr (.inr h))
 have hnd:(keys (l1++(b',Ob.vec (cs++ys.flatten))::l2)).Nodup:=by
  have hnd:=k2.nodup;rw [keys_app];simp only [keys,List.map_cons,List.map_append,List.nodup_cons,List.nodup_append,List.mem_append,List.mem_cons,not_or] at hnd ⊢;obtain ⟨⟨a1,a2,a3⟩,b1,⟨b2,b3⟩,b4⟩:=hnd;refine ⟨b1,⟨a3,b3⟩,fun x hx y hy=>?_⟩;rcases hy with rfl|hy
  ·rintro rfl;exact a1 hx
  exact b4 x hx y (.inr hy)
 obtain ⟨d1,d2⟩:=k2.sub hsub hnd;refine hn _ _ g' _ _ (hK b') d1 ?_ (hst.trans hc.own d2);rw [Rep];have hcapm:=grownCap_le_maxLen w (n+ys.length) cap e (by unfold maxLen;unfold AMAX at hmax;omega);refine ⟨_,_,0,k1,rfl,rfl,hcapw,by unfold LMAX;unfold AMAX at hmax;omega,x4,?_,fun _=>rfl,by unfold CAPM;unfold maxLen at hcapm;omega⟩;refine ⟨_,_,_,heap_alloc_new w.drew _,?_⟩;simp only [Array.size_append,List.size_toArray,size_zeroCells,hzs,List.length_append,hnl,o1,hcs,<- hk];rw [<- Nat.add_mul,<- Nat.add_mul];have:n+ys.length+(grownCap w (n+ys.length) cap e - (n+ys.length))=grownCap w (n+ys.length) cap e:=(by omega);rw [this];omega
theorem vec_write {l1 l2:Heap} {b o:Nat} {cs l:List AV} {us:List Value} {p:Addr} {N:Nat} (hc:CW X g0 (l1++(b,.vec cs)::l2) w) (hp:g0.pl b=some p) (hb:World.blockHas w p.block N) (ho0:o<=cs.length) (hle:p.off+o+l.length<=N)
  (hus:RepVs ⟨g0,live X (l1++(b,.vec cs)::l2),w⟩ l us) (ho:∀ u∈us,u.oneCell'=true) :
  (storeCells (⟨p.block,p.off+o,none⟩:Addr) us).run P w=.ok () (w.setCells p.block (p.off+o) us) /\
  (∀ M,World.blockHas w p.block M->World.blockHas (w.setCells p.block (p.off+o) us) p.block M) /\
    CW X g0 (l1++(b,.vec (setC cs o l))::l2) (w.setCells p.block (p.off+o) us) /\
    Step X g0 (l1++(b,.vec cs)::l2) w g0 (l1++(b,.vec (setC cs o l))::l2) (w.setCells p.block (p.off+o) us):=by
 have hob:=hc.obj b (.vec cs) (by simp);obtain ⟨p',cc,t,h1,h2,h3,h4,h5,h6⟩:=hob;simp only at h1 h3 h4;rw [hp] at h1;cases h1
 obtain ⟨cc0,t0,f0,q1,q2⟩:=hb;rw [h4] at q1;cases q1
 have hlen:=hus.length;have hfit:p.off+o+us.length<=cc.size:=(by omega);obtain ⟨cc',e1,e2,e3,e4,e5,e6,e7,e8,e9⟩:=setCells_heap p.block us (p.off+o) w cc t (0,0) h4 hfit;have hbk:b∈keys (l1++(b,.vec cs)::l2):=by rw [keys_mem];exact .inl rfl
 have hst:Step X g0 (l1++(b,.vec cs)::l2) w g0 (l1++(b,.vec (setC cs o l))::l2) (w.setCells p.block (p.off+o) us):=by
  refine ⟨e7,e8,e9,by omega,fun _ _ e=>e,fun _ _ _ e _=>e,fun _ _ _ e _=>e,fun _ _ e=>e,?_,?_,?_⟩
  ·intro blk hb hn;have hne:blk≠p.block:=fun e=>hn b 0 (e ▸ h3) hbk;refine ⟨e5 blk hne,fun k s hk hm=>hn k s hk ?_⟩;rw [keys_mem] at hm ⊢;exact hm
  ·intro blk k s hk hm dd tt ff hdd;by_cases e:blk=p.block
   ·subst e;rw [h3] at hk;cases hk
    rw [h4] at hdd;cases hdd
    exact ⟨cc',e1,e2,fun o ho=>by omega⟩
   exact ⟨dd,(e5 blk e).trans hdd,rfl,fun _ _=>rfl⟩
  intro blk k s hk _ k' s' hk' _;rw [hk] at hk';cases hk';exact Nat.le_refl _
 refine ⟨?_,fun M hM=>?_,?_,hst⟩
 ·have hst:=run_storeCells_cells (P:=P) p.block (p.off+o) us 0 w
   (fun j hj=>by
     simp only [Nat.add_zero];rw [cell_of_row w p.block _ cc t _ h4];have:p.off+o+j<cc.size:=(by omega);simp [this])
   (fun j hj=>frozen_of_row w p.block _ cc t h4) ho
  simpa only [Nat.add_zero] using hst
 ·obtain ⟨cc0,t0,f0,q1,q3⟩:=hM;rw [h4] at q1;cases q1
  exact ⟨cc',t,_,e1,by omega⟩
 have hsl:(setC cs o l).length=max cs.length (o+l.length):=by unfold setC;simp only [List.length_append,List.length_take,List.length_drop];omega
 refine hc.replace hst (fun blk k s hk=>by have:=hc.own _ _ _ hk;omega) (.inl rfl) (fun k hk=>.inr hk) (fun blk s k hk=>.inr ⟨blk,s,hk⟩) ?_ ?_
 ·intro blk k s hk hm
  have hne:blk≠p.block:=by
   intro e;rw [e,h3] at hk;cases hk
   exact hc.notmem hm
  exact ⟨e5 blk hne,rfl⟩
 refine ⟨p,cc',t,hp,h2,h3,e1,by rw [hsl];omega,?_⟩;intro i x hx;unfold setC at hx;by_cases hi:i<o
 ·rw [List.getElem?_append_left (by simp;omega),List.getElem?_append_left (by simp;omega),List.getElem?_take_of_lt hi] at hx;obtain ⟨u,hu,ho',hr⟩:=h6 i x hx;exact ⟨u,by rw [e3 _ (.inl (by omega))];exact hu,ho',Rep.mono (Step.le hst) _ _ hr⟩
 by_cases hi2:i<o+l.length
 ·rw [List.getElem?_append_left (by simp;omega),List.getElem?_append_right (by simp;omega)] at hx;have hto:(cs.take o).length=o:=by simp;omega
  rw [hto] at hx;obtain ⟨u,hu,hr⟩:=hus.get _ _ hx;have hlt:i - o<us.length:=(List.getElem?_eq_some_iff.1 hu).1;refine ⟨u,?_,ho u (List.mem_of_getElem? hu),Rep.mono (Step.le hst) _ _ hr⟩;have:=e4 (i - o) hlt;rw [show p.off+o+(i - o)=p.off+i from by omega] at this;rw [this,<- hu,List.getElem?_eq_getElem hlt]
 have hto:(cs.take o++l).length=o+l.length:=by simp;omega
 rw [List.getElem?_append_right (by omega),hto,List.getElem?_drop,show o+l.length+(i - (o+l.length))=i from by omega] at hx;obtain ⟨u,hu,ho',hr⟩:=h6 i x hx;exact ⟨u,by rw [e3 _ (.inr (by omega))];exact hu,ho',Rep.mono (Step.le hst) _ _ hr⟩
theorem vec_olds {c:Cx} {cc:Array Value} {q:Addr} {cs:List AV} (h6:∀ i x,cs[i]?=some x->∃ u,cc[q.off+i]?=some u/\u.oneCell'=true/\Rep c x u) :
  ∀ (l:List AV) (o:Nat),(∀ i x,l[i]?=some x->cs[o+i]?=some x) ->
   ∃ olds:List Value,olds.length=l.length/\(∀ (j:Nat) v,olds[j]?=some v->cc[q.off+(o+j)]?=some v)/\RepVs c l olds/\∀ v∈olds,v.oneCell'=true
 | [],o,_=>⟨[],rfl,by simp,by simp [RepVs],by simp⟩
 | x::l,o,hh=>by
   obtain ⟨u,a1,a2,a3⟩:=h6 o x (by simpa using hh 0 x (by simp))
   obtain ⟨olds,b1,b2,b3,b4⟩:=vec_olds h6 l (o+1) (fun i y hy=>by
    rw [show o+1+i=o+(i+1) from by omega];exact hh (i+1) y (by simpa using hy))
   refine ⟨u::olds,by simp [b1],?_,by simp only [RepVs];exact ⟨_,_,rfl,a3,b3⟩,?_⟩
   ·intro j v hj;cases j with
    | zero=>simp at hj;subst hj;simpa using a1
    | succ j=>
      have:=b2 j v (by simpa using hj);rw [show o+(j+1)=o+1+j from by omega];exact this
   intro v hv;rcases List.mem_cons.1 hv with rfl|hv
   ·exact a2
   exact b4 v hv
theorem oslc_room {l1 l2:Heap} {b k n off cap:Nat} {cs:List AV} {ys:List (List AV)} {u uy:Value} {t tx ty e:TypeId} {K:AV->Heap->Prop} {next:Act->World->Prop} {o:Oper}
  {Q:Exit->Act->World->Prop} (hc:CW X g0 (l1++(b,.vec cs)::l2) w) (ht:P.underlying t=some (.slice e)) (htx:srcTy P tx=true) (hk0:1<=P.cellsOf e)
  (hk:k=P.cellsOf e) (hcs:cs.length=off+n*k) (hmax:n+ys.length<=AMAX) (hroom:n+ys.length<=cap)
  (hsrc:∃ news:List Value,(∀ w',(Builtin.lenOf uy).run P w'=.ok ys.length w')/\(∀ w':World,w'.heap=w.heap->(Builtin.firstCells k ys.length uy).run P w'=.ok news.toArray w') /\
    RepVs ⟨g0,live X (l1++(b,.vec cs)::l2),w⟩ ys.flatten news/\(∀ x∈ys,x.length=k)/\(∀ v∈news,v.oneCell'=true))
  (hx:Rep ⟨g0,live X (l1++(b,.vec cs)::l2),w⟩ (.oslc b off n cap k) u)
  (hrun:∀ s w',(Builtin.append_ #[t,tx] ty #[u,uy]).run P w=.ok s w'->(execOp a.eval o).run P w=.ok (.value s) w')
  (hK:K (.oslc b off (n+ys.length) cap k) (l1++(b,.vec (cs++ys.flatten))::l2)) (hn:NextL X g0 (l1++(b,.vec cs)::l2) w K o.dst a next):o.wp P a w next Q:=by
 obtain ⟨i,hi⟩:∃ i,P.info? e=some i:=by
  cases hi:P.info? e with
  | none=>simp [Program.cellsOf,hi] at hk0
  | some i=>exact ⟨i,rfl⟩
 have hisz:i.size=P.cellsOf e:=(by simp [Program.cellsOf,hi]);obtain ⟨news,n1,n2,n3,n4,n5⟩:=hsrc;obtain ⟨q,cc,tt,h1,h2,h3,h4,h5,h6⟩:=hc.obj b (.vec cs) (by simp);simp only at h1 h3 h4;rw [Rep] at hx;obtain ⟨p,hp,hs,rfl,x2,x3,x4,x5,x6⟩:=hx;simp only at hp x5;rw [h1] at hp;cases hp
 have hle:q.off+cs.length+ys.flatten.length<=q.off+off+cap*k:=by rw [flat_length n4,hcs];have:=Nat.mul_le_mul_right k hroom;rw [Nat.add_mul] at this;omega
 obtain ⟨s1,s2,s3,s4⟩:=vec_extend (P:=P) hc h1 x5 hle n3 n5;refine wp_value (hrun _ _ (run_append_room' (m:=ys.length) (i:=i) ht htx hi n1 (by rw [hisz,<- hk];exact n2 w rfl) hroom (w':=w.setCells q.block (q.off+cs.length) news) ?_ (fun e=>by cases e))) ?_
 ·intro ad' he;cases he
  have hadd:(⟨q.block,q.off+off,none⟩:Addr).add (n*i.size)=⟨q.block,q.off+cs.length,none⟩:=by
   rw [hcs,hisz,<- hk];unfold Addr.add;split
   ·rename_i h0;rw [h0];simp
   simp [Nat.add_assoc]
  rw [hadd];exact s1
 refine hn _ _ g0 _ _ hK s3 ?_ s4;rw [Rep];exact ⟨q,h1,h2,rfl,hroom,by unfold LMAX;unfold AMAX at hmax;omega,x4,s2,x6⟩
theorem oslc_grow {b k n off cap:Nat} {cs:List AV} {ys:List (List AV)} {u uy:Value} {t tx ty e:TypeId} {K:AV->Heap->Prop} {next:Act->World->Prop} {o:Oper}
  {Q:Exit->Act->World->Prop} (hc:CW X g0 h w) (hin:(b,Ob.vec cs)∈h) (ht:P.underlying t=some (.slice e)) (htx:srcTy P tx=true) (hk0:1<=P.cellsOf e) (hbt:P.bytesOf e<=4096)
  {z:List AV} (hz:zeroCs P e=some z) (hzl:z.length=P.cellsOf e) (hk:k=P.cellsOf e) (hcs:n=0\/off+n*k<=cs.length) (hmax:n+ys.length<=AMAX) (hg:cap<n+ys.length)
  (hsrc:∃ news:List Value,(∀ w',(Builtin.lenOf uy).run P w'=.ok ys.length w')/\(∀ w':World,w'.heap=w.heap->(Builtin.firstCells k ys.length uy).run P w'=.ok news.toArray w') /\
    RepVs ⟨g0,live X h,w⟩ ys.flatten news/\(∀ x∈ys,x.length=k)/\(∀ v∈news,v.oneCell'=true))
  (hx:Rep ⟨g0,live X h,w⟩ (.oslc b off n cap k) u)
  (hrun:∀ s w',(Builtin.append_ #[t,tx] ty #[u,uy]).run P w=.ok s w'->(execOp a.eval o).run P w=.ok (.value s) w')
  (hK:∀ q,K (.osl q 0 (n+ys.length) k) ((q,.vec ((cs.drop off).take (n*k)++ys.flatten))::h)) (hn:NextL X g0 h w K o.dst a next):o.wp P a w next Q:=by
 obtain ⟨i,zv,hi,hzv,hzr,hz1⟩:=zeroCs_ok (c:=⟨g0,live X h,w⟩) hz;have hisz:i.size=P.cellsOf e:=(by simp [Program.cellsOf,hi]);have hib:i.bytes=P.bytesOf e:=(by simp [Program.bytesOf,hi]);have hzs:zv.cells.size=P.cellsOf e:=by have:=hzr.length;simp at this;omega
 obtain ⟨news,n1,n2,n3,n4,n5⟩:=hsrc;have hnl:news.length=ys.length*k:=(by rw [n3.length,flat_length n4]);obtain ⟨q,cc,tt,h1,h2,h3,h4,h5,h6⟩:=hc.obj b (.vec cs) hin;simp only at h1 h3 h4;rw [Rep] at hx;obtain ⟨p,hp,hs,rfl,x2,x3,x4,x5,x6⟩:=hx;simp only at hp x5;rw [h1] at hp;cases hp
 have hll:((cs.drop off).take (n*k)).length=n*k:=by
  rcases hcs with h|h
  ·subst h;simp
  simp;omega
 obtain ⟨olds,o1,o2,o3,o4⟩:=vec_olds (q:=q) h6 ((cs.drop off).take (n*k)) off (fun j x hj=>by
  have hjl:=(List.getElem?_eq_some_iff.1 hj).1;rw [hll] at hjl;rw [List.getElem?_take_of_lt hjl,List.getElem?_drop] at hj;exact hj)
 have hrn:=run_append_grow' (P:=P) (w:=w) (ty:=ty) (i:=i) (z:=zv) (m:=ys.length) (olds:=olds) ht htx hi hzv n1 (by rw [hisz,<- hk];exact n2 w.drew rfl) (base:=some ⟨q.block,q.off+off,none⟩) (sLen:=n)
  (by
    rw [hisz,<- hk];refine run_firstCells_some w.drew k n ⟨q.block,q.off+off,none⟩ n cap olds (by rw [o1,hll]) (fun j v hj=>?_)
    have hadd:(⟨q.block,q.off+off,none⟩:Addr).add j=⟨q.block,q.off+(off+j),none⟩:=by
     unfold Addr.add;split
     ·rename_i h0;rw [h0];simp
     simp [Nat.add_assoc]
    rw [hadd];have:w.drew.heap[q.block]?=some (.cells cc tt (0,0)):=h4;rw [cell_of_row w.drew q.block _ cc tt _ this];exact o2 j v hj) hg hmax (by omega)
 refine wp_value (hrun _ _ hrn) ?_;obtain ⟨c1,s1⟩:=hc.drew;have hcapw:=grownCap_ge w (n+ys.length) cap e;have hcapm:=grownCap_le_maxLen w (n+ys.length) cap e (by unfold maxLen;unfold AMAX at hmax;omega)
 obtain ⟨b',g',k1,k2,k3⟩:=c1.newVecZ (l:=(cs.drop off).take (n*k)++ys.flatten) (us:=olds++news) (Z:=Builtin.zeroCells zv.cells (grownCap w (n+ys.length) cap e - (n+ys.length))) e
  (RepVs.mono (Step.le s1) _ _ (RepVs.append o3 n3)) (by intro v hv;rcases List.mem_append.1 hv with h|h;exact o4 v h;exact n5 v h)
 refine hn _ _ g' _ _ (hK b') k2 ?_ (s1.trans hc.own k3);rw [Rep];refine ⟨_,_,0,k1,rfl,rfl,hcapw,by unfold LMAX;unfold AMAX at hmax;omega,x4,?_,fun _=>rfl,by unfold CAPM;unfold maxLen at hcapm;omega⟩;refine ⟨_,_,_,heap_alloc_new w.drew _,?_⟩;simp only [Array.size_append,List.size_toArray,size_zeroCells,hzs,List.length_append,hnl,o1,hll,<- hk];rw [<- Nat.add_mul,<- Nat.add_mul];have:n+ys.length+(grownCap w (n+ys.length) cap e - (n+ys.length))=grownCap w (n+ys.length) cap e:=(by omega);rw [this];omega
theorem oslc_zeros {b k n off cap m:Nat} {kq:IntKind} {cs:List AV} {u:Value} {t tx ty e:TypeId} {kn:IntKind} {K:AV->Heap->Prop} {next:Act->World->Prop} {o:Oper}
  {Q:Exit->Act->World->Prop} (hc:CW X g0 h w) (hin:(b,Ob.vec cs)∈h) (ht:P.underlying t=some (.slice e)) (htx:P.underlying tx=some (.int kn)) (hk0:1<=P.cellsOf e) (hbt:P.bytesOf e<=4096)
  {z:List AV} (hz:zeroCs P e=some z) (hzl:z.length=P.cellsOf e) (hk:k=P.cellsOf e) (hcs:off+n*k<=cs.length) (hm:0<m) (hmax:n+m<=4294967296) (hg:cap<n+m)
  (hx:Rep ⟨g0,live X h,w⟩ (.oslc b off n cap k) u)
  (hrun:∀ s w',(Builtin.append_ #[t,tx] ty #[u,.int kq m]).run P w=.ok s w'->(execOp a.eval o).run P w=.ok (.value s) w')
  (hK:∀ q,K (.osl q 0 (n+m) k) ((q,.vec ((cs.drop off).take (n*k)++repC m z))::h)) (hn:NextL X g0 h w K o.dst a next):o.wp P a w next Q:=by
 obtain ⟨i,zv,hi,hzv,hzr,hz1⟩:=zeroCs_ok (c:=⟨g0,live X h,w⟩) hz;have hisz:i.size=P.cellsOf e:=(by simp [Program.cellsOf,hi]);have hib:i.bytes=P.bytesOf e:=(by simp [Program.bytesOf,hi]);have hzs:zv.cells.size=P.cellsOf e:=by have:=hzr.length;simp at this;omega
 obtain ⟨q,cc,tt,h1,h2,h3,h4,h5,h6⟩:=hc.obj b (.vec cs) hin;simp only at h1 h3 h4;rw [Rep] at hx;obtain ⟨p,hp,hs,rfl,x2,x3,x4,x5,x6⟩:=hx;simp only at hp x5;rw [h1] at hp;cases hp
 have hll:((cs.drop off).take (n*k)).length=n*k:=by simp;omega
 obtain ⟨olds,o1,o2,o3,o4⟩:=vec_olds (q:=q) h6 ((cs.drop off).take (n*k)) off (fun j x hj=>by
  have hjl:=(List.getElem?_eq_some_iff.1 hj).1;rw [hll] at hjl;rw [List.getElem?_take_of_lt hjl,List.getElem?_drop] at hj;exact hj)
 have hfit:Builtin.nextslicecap (n+m) cap*i.bytes<=281474976710656:=by have h1:Builtin.nextslicecap (n+m) cap<=2*(n+m):=nextslicecap_le hg;exact Nat.le_trans (Nat.mul_le_mul h1 (by omega:i.bytes<=4096)) (by omega)
 have h48:m*i.bytes<=281474976710656:=Nat.le_trans (Nat.mul_le_mul (by omega:m<=4294967296) (by omega:i.bytes<=4096)) (by omega)
 have hrn:=Go.Lib.run_append_grow_zeros (P:=P) w t tx ty e i zv kq kn ht htx hi hzv (some ⟨q.block,q.off+off,none⟩) n cap olds
  (by
    rw [hisz,<- hk];refine run_firstCells_some w.drew k n ⟨q.block,q.off+off,none⟩ n cap olds (by rw [o1,hll]) (fun j v hj=>?_)
    have hadd:(⟨q.block,q.off+off,none⟩:Addr).add j=⟨q.block,q.off+(off+j),none⟩:=by
     unfold Addr.add;split
     ·rename_i h0;rw [h0];simp
     simp [Nat.add_assoc]
    rw [hadd];have:w.drew.heap[q.block]?=some (.cells cc tt (0,0)):=h4;rw [cell_of_row w.drew q.block _ cc tt _ this];exact o2 j v hj) m hm (by omega) hg (by omega) h48 hfit
 refine wp_value (hrun _ _ hrn) ?_;obtain ⟨c1,s1⟩:=hc.drew;have hcapw:=grownCap_ge w (n+m) cap e;have hcapm:=grownCap_le_maxLen w (n+m) cap e (by unfold maxLen;omega);have hzc:(Builtin.zeroCells zv.cells m).toList=(List.replicate m zv.cells.toList).flatten:=made_eq zv.cells (by omega) m;have hrz:=RepVs.repl hzr m
 obtain ⟨b',g',k1,k2,k3⟩:=c1.newVecZ (l:=(cs.drop off).take (n*k)++repC m z) (us:=olds++(List.replicate m zv.cells.toList).flatten) (Z:=Builtin.zeroCells zv.cells (grownCap w (n+m) cap e - (n+m))) e
  (RepVs.mono (Step.le s1) _ _ (RepVs.append o3 hrz)) (by
    intro v hv;rcases List.mem_append.1 hv with h|h
    ·exact o4 v h
    simp only [List.mem_flatten,List.mem_replicate] at h;obtain ⟨l,⟨_,rfl⟩,hu⟩:=h;exact hz1 v (by simpa using hu))
 have e1:olds.toArray++Builtin.zeroCells zv.cells m=(olds++(List.replicate m zv.cells.toList).flatten).toArray:=by rw [<- Array.toList_inj];simp [hzc]
 rw [e1];refine hn _ _ g' _ _ (hK b') k2 ?_ (s1.trans hc.own k3);rw [Rep];refine ⟨_,_,0,k1,rfl,rfl,hcapw,by unfold LMAX;omega,x4,?_,fun _=>rfl,by unfold CAPM;unfold maxLen at hcapm;omega⟩;refine ⟨_,_,_,heap_alloc_new w.drew _,?_⟩;have hul:(List.replicate m zv.cells.toList).flatten.length=m*k:=(by simp [hzs,hk]);simp only [Array.size_append,List.size_toArray,size_zeroCells,hzs,List.length_append,hul,o1,hll,<- hk];rw [<- Nat.add_mul,<- Nat.add_mul];have:n+m+(grownCap w (n+m) cap e - (n+m))=grownCap w (n+m) cap e:=(by omega);rw [this];omega
end Go.Abs
