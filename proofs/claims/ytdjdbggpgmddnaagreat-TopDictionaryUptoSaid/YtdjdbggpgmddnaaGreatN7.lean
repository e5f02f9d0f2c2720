/- Small laws for the walks and contracts of functions; each theorem names its conditions. -/
import Derived.Test.YtdjdbggpgmddnaaGreatN6
import Derived.Laws.RangeAny
/-
 The abstract layer,part I: all loud operations.
-/
set_option linter.unusedVariables false
set_option linter.unusedSimpArgs false
namespace Go.Abs
open Go
variable {P:Program} {n:Nat} {X:Nat->Prop} {g0:Gh} {r:Regs} {h:Heap} {a:Act} {w:World}
theorem append_arrays {cl:Call} {t tx:TypeId} {u uy:Value} {o:Oper} {b:Array Bool} (ho:o.op=.call cl) (hcal:cl.callee=.builtin .append) (hty:cl.argTypes.toList=[t,tx])
  (hargs:cl.args.toList.map a.eval=[u,uy]):∀ s w',(Builtin.append_ #[t,tx] o.type #[u,uy]).run P w=.ok s w'->(execOp a.eval o).run P w=.ok (.value s) w':=by
 intro s w' hh;have h1:cl.args.map a.eval=#[u,uy]:=by rw [<- Array.toList_inj];simpa using hargs
 have h2:cl.argTypes=#[t,tx]:=by rw [<- Array.toList_inj];simpa using hty
 simp [execOp,ho,resolve,hcal,invoke,builtin,h1,h2,hh]
theorem map_store {l1 l2:Heap} {b:Nat} {es es':List (AV × AV)} {p:Addr} {ents ents':Array MapEntry} {cl cl':Nat} (hc:CW X g0 (l1++(b,.map es)::l2) w) (hp:g0.pl b=some p) (ho:g0.ow p.block=some (b,0))
  (hb:w.heap[p.block]?=some (.map ents cl)) (he:EntsRep ⟨g0,live X (l1++(b,.map es)::l2),w⟩ es' ents'.toList) (h1:∀ x∈ents'.toList,x.born<cl') (h2:(ents'.toList.map (·.born)).Nodup) :
  (setObj p.block (.map ents' cl')).run P w=.ok () { w with heap:=w.heap.setIfInBounds p.block (.map ents' cl') } /\
  CW X g0 (l1++(b,.map es')::l2) { w with heap:=w.heap.setIfInBounds p.block (.map ents' cl') } /\
  Step X g0 (l1++(b,.map es)::l2) w g0 (l1++(b,.map es')::l2) { w with heap:=w.heap.setIfInBounds p.block (.map ents' cl') }:=by
 have hlt:p.block<w.heap.size:=(Array.getElem?_eq_some_iff.1 hb).1;have hoth:∀ blk,blk≠p.block->(w.heap.setIfInBounds p.block (.map ents' cl'))[blk]?=w.heap[blk]?:=fun blk hne=>Array.getElem?_setIfInBounds_ne (Ne.symm hne);have hbk:b∈keys (l1++(b,.map es)::l2):=by rw [keys_mem];exact .inl rfl
 have hst:Step X g0 (l1++(b,.map es)::l2) w g0 (l1++(b,.map es')::l2) { w with heap:=w.heap.setIfInBounds p.block (.map ents' cl') }:=by
  refine ⟨rfl,⟨rfl,Nat.le_refl _⟩,rfl,by simp,fun _ _ e=>e,fun _ _ _ e _=>e,fun _ _ _ e _=>e,fun _ _ e=>e,?_,?_,?_⟩
  ·intro blk hlt hn;have hne:blk≠p.block:=fun e=>hn b 0 (e ▸ ho) hbk;refine ⟨hoth blk hne,fun k s hk hm=>hn k s hk ?_⟩;rw [keys_mem] at hm ⊢;exact hm
  ·intro blk k s hk hm dd tt ff hdd;by_cases e:blk=p.block
   ·subst e;rw [hb] at hdd;cases hdd
   exact ⟨dd,(hoth blk e).trans hdd,rfl,fun _ _=>rfl⟩
  intro blk k s hk _ k' s' hk' _;rw [hk] at hk';cases hk';exact Nat.le_refl _
 refine ⟨by simp [setObj,Sem.run,hb],?_,hst⟩;refine hc.replace hst (fun blk k s hk=>by have:=hc.own _ _ _ hk;simpa using this) (.inl rfl) (fun k hk=>.inr hk) (fun blk s k hk=>.inr ⟨blk,s,hk⟩) ?_ ?_
 ·intro blk k s hk hm
  have hne:blk≠p.block:=by
   intro e;rw [e,ho] at hk;cases hk
   exact hc.notmem hm
  exact ⟨hoth blk hne,rfl⟩
 exact ⟨p,cl',ents',hp,ho,by simp [hlt],EntsRep.mono (Step.le hst) he,h1,h2⟩
theorem EntsRep.append {c:Cx}:∀ {es:List (AV × AV)} {ents:List MapEntry} {k v:AV} {e:MapEntry},EntsRep c es ents->Rep c k e.key->Rep c v e.val->EntsRep c (es++[(k,v)]) (ents++[e])
 | [],ents,k,v,e,h,h1,h2=>by simp [EntsRep] at h;subst h;exact ⟨e,[],rfl,h1,h2,rfl⟩
 | x::es,ents,k,v,e,h,h1,h2=>by obtain ⟨e',r,rfl,a1,a2,a3⟩:=h;exact ⟨e',r++[e],rfl,a1,a2,EntsRep.append a3 h1 h2⟩
theorem modify_born (l:List MapEntry) (j:Nat) (u v:Value):(l.modify j fun e=>{ e with key:=u,val:=v }).map (·.born)=l.map (·.born):=by
 induction l generalizing j with
 | nil=>cases j<;>rfl
 | cons y l ih=>
   cases j with
   | zero=>rfl
   | succ j=>
     rw [List.modify_succ_cons,List.map_cons,List.map_cons,ih j]
theorem srcO_ok {b2 o2 n2 k2:Nat} {cs:List AV} {ys:List (List AV)} {u:Value} (hc:CW X g0 h w) (hin:(b2,Ob.vec cs)∈h) (hu:Rep ⟨g0,live X h,w⟩ (.osl b2 o2 n2 k2) u)
  (hcs:(cs.drop o2).take (n2*k2)=ys.flatten) (hyk:∀ z∈ys,z.length=k2) (hyn:ys.length=n2) :
  ∃ news:List Value,(∀ w',(Builtin.lenOf u).run P w'=.ok ys.length w')/\(∀ w':World,w'.heap=w.heap->(Builtin.firstCells k2 ys.length u).run P w'=.ok news.toArray w') /\
   RepVs ⟨g0,live X h,w⟩ ys.flatten news/\(∀ x∈ys,x.length=k2)/\(∀ v∈news,v.oneCell'=true):=by
 simp only [Rep] at hu;obtain ⟨p,cap,o2',hp,hsp,rfl,x2,x3,x4,x5,x6,x7⟩:=hu;obtain ⟨q,cc,t,h1,h2,h3,h4,h5,h6⟩:=hc.obj b2 _ hin;simp only at h1 h3 h4 hp;rw [hp] at h1;cases h1
 have hfl:ys.flatten.length=n2*k2:=(by rw [flat_length hyk,hyn]);have hlen:o2+n2*k2<=cs.length\/n2*k2=0:=by have:=congrArg List.length hcs;rw [hfl,List.length_take,List.length_drop] at this;omega
 have hget:∀ j,j<n2*k2->∃ x,ys.flatten[j]?=some x/\cc[p.off+(o2+j)]?=some (cc[p.off+(o2+j)]!)/\(cc[p.off+(o2+j)]!).oneCell'=true/\Rep ⟨g0,live X h,w⟩ x (cc[p.off+(o2+j)]!):=by
  intro j hj;have hj2:o2+j<cs.length:=(by omega);have hg:ys.flatten[j]?=some cs[o2+j]:=(by rw [<- hcs,List.getElem?_take_of_lt hj,List.getElem?_drop,List.getElem?_eq_getElem hj2]);obtain ⟨v,a1,a2,a3⟩:=h6 (o2+j) cs[o2+j] (List.getElem?_eq_getElem hj2);have hv:cc[p.off+(o2+j)]! = v:=by have hlt2:=(Array.getElem?_eq_some_iff.1 a1).1;rw [getElem!_pos cc _ hlt2];exact (Array.getElem?_eq_some_iff.1 a1).2
  exact ⟨_,hg,by rw [hv];exact a1,by rw [hv];exact a2,by rw [hv];exact a3⟩
 have hnl:((List.range (n2*k2)).map fun j=>cc[p.off+(o2+j)]!).length=n2*k2:=(by simp);have hng:∀ j,j<n2*k2->((List.range (n2*k2)).map fun j=>cc[p.off+(o2+j)]!)[j]?=some (cc[p.off+(o2+j)]!):=fun j hj=>by simp [hj]
 have hrep:∀ {xs:List AV} {us:List Value},xs.length=us.length->(∀ (i:Nat) x u,xs[i]?=some x->us[i]?=some u->Rep ⟨g0,live X h,w⟩ x u)->RepVs ⟨g0,live X h,w⟩ xs us:=by
  intro xs;induction xs with
  | nil=>intro us hl _;have:us=[]:=List.eq_nil_of_length_eq_zero (by simpa using hl.symm);subst this;simp [RepVs]
  | cons x xs ih=>
    intro us hl hh
    match us,hl with
    | v::us,hl=>
      simp only [RepVs];exact ⟨v,us,rfl,hh 0 x v rfl rfl,ih (by simpa using hl) fun i x u h1 h2=>hh (i+1) x u (by simpa using h1) (by simpa using h2)⟩
 refine ⟨(List.range (n2*k2)).map fun j=>cc[p.off+(o2+j)]!,fun w'=>by simp [Builtin.lenOf,hyn],fun w' hw=>?_,hrep (by rw [hfl,hnl]) fun j x v hx hv=>?_,hyk,fun v hv=>?_⟩
 ·rw [hyn];refine run_firstCells_some w' k2 n2 ⟨p.block,p.off+o2',none⟩ n2 cap _ hnl (fun j v hj=>?_);have hj2:j<n2*k2:=by have:=(List.getElem?_eq_some_iff.1 hj).1;rw [hnl] at this;exact this
  have hn2:0<n2:=by
   rcases Nat.eq_zero_or_pos n2 with h|h
   ·subst h;simp at hj2
   exact h
  have:=x6 (by omega);subst this;rw [hng j hj2] at hj;cases hj
  obtain ⟨_,_,a1,_,_⟩:=hget j hj2
  have hadd:(⟨p.block,p.off+o2',none⟩:Addr).add j=⟨p.block,p.off+(o2'+j),none⟩:=by
   unfold Addr.add;split
   ·rename_i h0;rw [h0];simp
   simp [Nat.add_assoc]
  rw [hadd];simp only [World.cell?,hw,h4];simpa using a1
 ·have hj2:j<n2*k2:=by have:=(List.getElem?_eq_some_iff.1 hv).1;rw [hnl] at this;exact this
  rw [hng j hj2] at hv;cases hv
  obtain ⟨x',b1,_,_,b4⟩:=hget j hj2;rw [hx] at b1;cases b1
  exact b4
 obtain ⟨j,hj,rfl⟩:=List.mem_map.1 hv;exact (hget j (List.mem_range.1 hj)).choose_spec.2.2.1
theorem getObj_run {r pos:Nat} {b:ByteArray} (h:w.heap[r]?=some (.stringIter b pos)):(getObj r).run P w=.ok (.stringIter b pos) w:=by simp [getObj,Sem.run,h]
theorem siter_store {l1 l2:Heap} {b pos pos':Nat} {s:List UInt8} {bs:ByteArray} {p:Addr} (hc:CW X g0 (l1++(b,.siter s pos)::l2) w) (hp:g0.pl b=some p) (ho:g0.ow p.block=some (b,0))
  (hb:w.heap[p.block]?=some (.stringIter bs pos)) (hs:bs.data.toList=s) (hl:s.length<=LMAX) :
  (setObj p.block (.stringIter bs pos')).run P w=.ok () { w with heap:=w.heap.setIfInBounds p.block (.stringIter bs pos') } /\
  CW X g0 (l1++(b,.siter s pos')::l2) { w with heap:=w.heap.setIfInBounds p.block (.stringIter bs pos') } /\
  Step X g0 (l1++(b,.siter s pos)::l2) w g0 (l1++(b,.siter s pos')::l2) { w with heap:=w.heap.setIfInBounds p.block (.stringIter bs pos') }:=by
 have hlt:p.block<w.heap.size:=(Array.getElem?_eq_some_iff.1 hb).1;have hoth:∀ blk,blk≠p.block->(w.heap.setIfInBounds p.block (.stringIter bs pos'))[blk]?=w.heap[blk]?:=fun blk hne=>Array.getElem?_setIfInBounds_ne (Ne.symm hne);have hbk:b∈keys (l1++(b,.siter s pos)::l2):=by rw [keys_mem];exact .inl rfl
 have hst:Step X g0 (l1++(b,.siter s pos)::l2) w g0 (l1++(b,.siter s pos')::l2) { w with heap:=w.heap.setIfInBounds p.block (.stringIter bs pos') }:=by
  refine ⟨rfl,⟨rfl,Nat.le_refl _⟩,rfl,by simp,fun _ _ e=>e,fun _ _ _ e _=>e,fun _ _ _ e _=>e,fun _ _ e=>e,?_,?_,?_⟩
  ·intro blk hlt hn;have hne:blk≠p.block:=fun e=>hn b 0 (e ▸ ho) hbk;refine ⟨hoth blk hne,fun k s hk hm=>hn k s hk ?_⟩;rw [keys_mem] at hm ⊢;exact hm
  ·intro blk k s hk hm dd tt ff hdd;by_cases e:blk=p.block
   ·subst e;rw [hb] at hdd;cases hdd
   exact ⟨dd,(hoth blk e).trans hdd,rfl,fun _ _=>rfl⟩
  intro blk k s hk _ k' s' hk' _;rw [hk] at hk';cases hk';exact Nat.le_refl _
 refine ⟨by simp [setObj,Sem.run,hb],?_,hst⟩;refine hc.replace hst (fun blk k s hk=>by have:=hc.own _ _ _ hk;simpa using this) (.inl rfl) (fun k hk=>.inr hk) (fun blk s k hk=>.inr ⟨blk,s,hk⟩) ?_ ?_
 ·intro blk k s hk hm
  have hne:blk≠p.block:=by
   intro e;rw [e,ho] at hk;cases hk
   exact hc.notmem hm
  exact ⟨hoth blk hne,rfl⟩
 exact ⟨p,bs,hp,ho,by simp [hlt],hs,hl⟩
theorem copy_ok {N:Nat} {dst:Option Tmp} {cl:Call} {ty:TypeId} {pos:String} {aft:Array Edge} {gd:Option (Nat × Bool)} {t tx e:TypeId} {b o m k n:Nat} {cs:List AV} {ys:List (List AV)} {r:Regs} {h h':Heap} {a:Act} {w:World} {u uy:Value} {news:List Value} {K:AV->Heap->Prop} {next:Act->World->Prop} {Q:Exit->Act->World->Prop}
  (hc:Conc N X g0 r h a w) (hud:P.underlying t=some (.slice e)) (hk:k=P.cellsOf e) (hk1:1<=P.cellsOf e) (hu:Upd b (.vec cs) b (.vec (setC cs o ys.flatten)) h h') (h1:Rep ⟨g0,live X h,w⟩ (.osl b o m k) u)
  (hcal:cl.callee=.builtin .copy) (hat:cl.argTypes.toList=[t,tx]) (e1:List.map a.eval cl.args.toList=[u,uy]) (hle:o+ys.flatten.length<=cs.length) (hm0:0<m)
  (hK:K (.int .i64 ys.length) h') (hn:NextL X g0 h w K dst a next) (hmin:ys.length=min n m) (hlen:∀ w',(Builtin.lenOf uy).run P w'=.ok n w')
  (hfc:∀ w':World,w'.heap=w.heap->(Builtin.firstCells (P.cellsOf e) ys.length uy).run P w'=.ok news.toArray w') (hrep:RepVs ⟨g0,live X h,w⟩ ys.flatten news) (hone:∀ v∈news,v.oneCell'=true) :
  (⟨dst,.call cl,ty,pos,aft,gd⟩:Oper).wp P a w next Q:=by
 obtain ⟨l1,l2,rfl,rfl⟩:=Upd.split hu;obtain ⟨p,cap,x1,x2,rfl,x3,x4,x5,x6,_⟩:=h1.oslE hm0;simp only at x1;obtain ⟨q,cc,tt,p1,p2,p3,p4,p5,p6⟩:=vec_store (o:=o) hc.cw hle hrep hone;rw [x1] at p1;cases p1
 refine wp_value (u:=goInt ys.length) (w':=w.setCells p.block (p.off+o) news) ?_ (hn (.int .i64 ys.length) _ g0 _ _ hK p5 (by
  rw [Rep];refine ⟨rfl,?_⟩;unfold LMAX at x4;simp [IntKind.has,IntKind.min,IntKind.max,IntKind.signed,IntKind.bits];omega) p6)
 have h1:cl.args.map a.eval=#[.slice (some ⟨p.block,p.off+o,none⟩) m cap,uy]:=by rw [<- Array.toList_inj];simpa using e1
 have h2:cl.argTypes=#[t,tx]:=by rw [<- Array.toList_inj];simpa using hat
 have hst:=run_storeCells_cells (P:=P) p.block (p.off+o) news 0 w
  (fun j hj=>by
    simp only [Nat.add_zero];rw [cell_of_row w p.block (p.off+o+j) cc tt _ p3];have:p.off+o+j<cc.size:=(by omega);simp [this])
  (fun j hj=>frozen_of_row w p.block _ cc tt p3) hone
 simp only [Nat.add_zero] at hst
 obtain ⟨i,hi,his⟩:∃ i,P.info? e=some i/\i.size=P.cellsOf e:=by
  cases hi:P.info? e with
  | none=>simp [Program.cellsOf,hi] at hk1
  | some i=>exact ⟨i,rfl,by simp [Program.cellsOf,hi]⟩
 have hcp:(Builtin.copy_ #[t,tx] ty #[.slice (some ⟨p.block,p.off+o,none⟩) m cap,uy]).run P w=.ok (goInt ys.length) (w.setCells p.block (p.off+o) news):=by have hf:=hfc w rfl;simp only [Builtin.copy_,List.getElem?_toArray,List.getElem?_cons_zero,List.getElem?_cons_succ,Sem.run_bind,run_und hud,Result.andThen_ok,hlen,sizeOf,typeInfo,run_program,hi,his];have hmin':Nat.min n m=ys.length:=hmin.symm;simp only [hmin',Sem.run_pure,Result.andThen_ok,his,hf,hst]
 simp [execOp,resolve,hcal,invoke,builtin,h1,h2,hcp]
theorem osl_src {c:Cx} {b2 o2 n2 k2 m:Nat} {u2:Value} (h2:Rep c (.osl b2 o2 n2 k2) u2):(∀ w',(Builtin.lenOf u2).run P w'=.ok n2 w') /\
  ∃ u2',Rep c (.osl b2 o2 (min n2 m) k2) u2'/\(∀ c j,Builtin.firstCells c j u2=Builtin.firstCells c j u2'):=by
 rw [Rep] at h2;obtain ⟨p,cap,o',x1,x2,rfl,x3,x4,x5,x6,x7,x8⟩:=h2;refine ⟨fun w'=>by simp [Builtin.lenOf],.slice (some ⟨p.block,p.off+o',none⟩) (min n2 m) cap,?_,fun c j=>rfl⟩;rw [Rep];exact ⟨p,cap,o',x1,x2,rfl,by omega,by omega,x5,x6,x7,x8⟩
theorem oslc_src {c:Cx} {b2 o2 n2 c2 k2 m:Nat} {u2:Value} (h2:Rep c (.oslc b2 o2 n2 c2 k2) u2):(∀ w',(Builtin.lenOf u2).run P w'=.ok n2 w') /\
  ∃ u2',Rep c (.osl b2 o2 (min n2 m) k2) u2'/\(∀ c j,Builtin.firstCells c j u2=Builtin.firstCells c j u2'):=by
 rw [Rep] at h2;obtain ⟨p,x1,x2,rfl,x3,x4,x5,x6,x8⟩:=h2;refine ⟨fun w'=>by simp [Builtin.lenOf],.slice (some ⟨p.block,p.off+o2,none⟩) (min n2 m) c2,?_,fun c j=>rfl⟩;rw [Rep];exact ⟨p,c2,o2,x1,x2,rfl,by omega,by omega,x5,x6,fun _=>rfl,x8⟩
theorem copyC_ok {N:Nat} {dst:Option Tmp} {cl:Call} {ty:TypeId} {pos:String} {aft:Array Edge} {gd:Option (Nat × Bool)} {t tx e:TypeId} {b o m k n c:Nat} {cs:List AV} {ys:List (List AV)} {r:Regs} {h h':Heap} {a:Act} {w:World} {u uy:Value} {news:List Value} {K:AV->Heap->Prop} {next:Act->World->Prop} {Q:Exit->Act->World->Prop}
  (hc:Conc N X g0 r h a w) (hud:P.underlying t=some (.slice e)) (hk:k=P.cellsOf e) (hk1:1<=P.cellsOf e) (hu:Upd b (.vec cs) b (.vec (setC cs o ys.flatten)) h h') (h1:Rep ⟨g0,live X h,w⟩ (.oslc b o m c k) u)
  (hcal:cl.callee=.builtin .copy) (hat:cl.argTypes.toList=[t,tx]) (e1:List.map a.eval cl.args.toList=[u,uy]) (hle:o<=cs.length) (hlm:ys.flatten.length<=m*k)
  (hK:K (.int .i64 ys.length) h') (hn:NextL X g0 h w K dst a next) (hmin:ys.length=min n m) (hlen:∀ w',(Builtin.lenOf uy).run P w'=.ok n w')
  (hfc:∀ w':World,w'.heap=w.heap->(Builtin.firstCells (P.cellsOf e) ys.length uy).run P w'=.ok news.toArray w') (hrep:RepVs ⟨g0,live X h,w⟩ ys.flatten news) (hone:∀ v∈news,v.oneCell'=true) :
  (⟨dst,.call cl,ty,pos,aft,gd⟩:Oper).wp P a w next Q:=by
 obtain ⟨l1,l2,rfl,rfl⟩:=Upd.split hu;rw [Rep] at h1;obtain ⟨p,x1,x2,rfl,x3,x4,x5,x6,x7⟩:=h1;simp only at x1 x6;obtain ⟨hst,_,p5,p6⟩:=vec_write (P:=P) (o:=o) hc.cw x1 x6 hle (by have:=Nat.mul_le_mul_right k x3;omega) hrep hone
 refine wp_value (u:=goInt ys.length) (w':=w.setCells p.block (p.off+o) news) ?_ (hn (.int .i64 ys.length) _ g0 _ _ hK p5 (by
  rw [Rep];refine ⟨rfl,?_⟩;unfold LMAX at x4;simp [IntKind.has,IntKind.min,IntKind.max,IntKind.signed,IntKind.bits];omega) p6)
 have h1:cl.args.map a.eval=#[.slice (some ⟨p.block,p.off+o,none⟩) m c,uy]:=by rw [<- Array.toList_inj];simpa using e1
 have h2:cl.argTypes=#[t,tx]:=by rw [<- Array.toList_inj];simpa using hat
 obtain ⟨i,hi,his⟩:∃ i,P.info? e=some i/\i.size=P.cellsOf e:=by
  cases hi:P.info? e with
  | none=>simp [Program.cellsOf,hi] at hk1
  | some i=>exact ⟨i,rfl,by simp [Program.cellsOf,hi]⟩
 have hcp:(Builtin.copy_ #[t,tx] ty #[.slice (some ⟨p.block,p.off+o,none⟩) m c,uy]).run P w=.ok (goInt ys.length) (w.setCells p.block (p.off+o) news):=by have hf:=hfc w rfl;simp only [Builtin.copy_,List.getElem?_toArray,List.getElem?_cons_zero,List.getElem?_cons_succ,Sem.run_bind,run_und hud,Result.andThen_ok,hlen,sizeOf,typeInfo,run_program,hi,his];have hmin':Nat.min n m=ys.length:=hmin.symm;simp only [hmin',Sem.run_pure,Result.andThen_ok,his,hf,hst]
 simp [execOp,resolve,hcal,invoke,builtin,h1,h2,hcp]
theorem opL_ok {o:Oper} {K:AV->Heap->Prop} {next:Act->World->Prop} {Q:Exit->Act->World->Prop}
  (hq:opL P r h K o.op) (hc:Conc n X g0 r h a w) (hn:NextL X g0 h w K o.dst a next):o.wp P a w next Q:=by
 have hg0:holdsC a []:=fun e he=>by cases he
 obtain ⟨dst,op,ty,pos,aft,gd⟩:=o;simp only at hq hn;cases op
 case binOp op t x y yt=>
  cases op<;>try (simp [opL] at hq;done)
  simp only [opL] at hq;cases hx:opnd r [] x with
  | none=>simp [hx] at hq
  | some u=>
    cases u<;>try (simp [hx] at hq;done)
    rename_i k1 a1;cases k1<;>try (simp [hx] at hq;done)
    simp only [hx] at hq;cases hy:opnd r [] y with
    | none=>simp [hy] at hq
    | some v=>
      cases v<;>try (simp [hy] at hq;done)
      rename_i k2 a2;cases k2<;>try (simp [hy] at hq;done)
      simp only [hy] at hq;have hu:=hc.opnd hg0 hx;have hv:=hc.opnd hg0 hy;rw [Rep] at hu hv;obtain ⟨hu,_⟩:=hu;obtain ⟨hv,_⟩:=hv;refine wp_value (u:=.int .i64 (IntKind.i64.wrap (a1+a2))) (w':=w) ?_ (hn _ _ g0 _ _ hq hc.cw ?_ (Step.refl _ _ _ _))
      ·simp [execOp,hu,hv,run_eqGuard,binOp,Op.intArith]
      rw [Rep];refine ⟨rfl,?_⟩;constructor<;>simp [IntKind.min,IntKind.max,IntKind.wrap,IntKind.signed,IntKind.bits]<;>(try split)<;>omega
 case box t x=>
  simp only [opL] at hq;cases hx:opnd r [] x with
  | none=>simp [hx] at hq
  | some v=>
    simp only [hx] at hq;cases hv:cellsV v with
    | none=>simp [hv] at hq
    | some l=>
      simp only [hv] at hq;split at hq
      ·have hr:=hc.opnd hg0 hx;obtain ⟨h1,h2⟩:=cellsV_rep hv hr;obtain ⟨k,g',k1,k2,k3⟩:=hc.cw.newVec t h1 h2;refine wp_value (u:=.pointer (some ⟨w.heap.size,0,none⟩)) (w':=w.alloc (.cells (a.eval x).cells t)) ?_ (hn _ _ g' _ _ (hq k) k2 ?_ k3)
       ·simp [execOp,Instr.box,newVar,newRow]
       rw [Rep];exact ⟨_,k1,rfl,rfl⟩
      exact hq.elim
 case alloc t=>
  simp only [opL] at hq;cases hz:zeroCs P t with
  | none=>simp [hz] at hq
  | some z=>
    simp only [hz] at hq;obtain ⟨i,zv,hi,hzv,hzr,hz1⟩:=zeroCs_ok (c:=⟨g0,live X h,w⟩) hz;obtain ⟨k,g',k1,k2,k3⟩:=hc.cw.newVec t hzr hz1;refine wp_value (u:=.pointer (some ⟨w.heap.size,0,none⟩)) (w':=w.alloc (.cells zv.cells t)) ?_ (hn _ _ g' _ _ (hq k) k2 ?_ k3)
    ·simp [execOp,Instr.alloc,newVar,newRow,zeroValue,typeInfo,hi,hzv]
    rw [Rep];exact ⟨_,k1,rfl,rfl⟩
 case store t x y=>
  simp only [opL] at hq;cases hx:opnd r [] x with
  | none=>simp [hx] at hq
  | some vx=>
    have hrx:=hc.opnd hg0 hx;cases vx<;>try (simp [hx] at hq;done)
    rename_i b ofs;simp only [hx] at hq;cases hy:opnd r [] y with
    | none=>simp [hy] at hq
    | some v=>
      simp only [hy] at hq;cases hv:cellsV v with
      | none=>simp [hv] at hq
      | some l=>
        simp only [hv] at hq;split at hq<;>try contradiction
        rename_i hlen;have hlen:=Nat.eq_of_beq_eq_true hlen;obtain ⟨cs,h',hu,⟨hpos,hle⟩,hK⟩:=hq;obtain ⟨l1,l2,rfl,rfl⟩:=Upd.split hu;obtain ⟨r1,r2⟩:=cellsV_rep hv (hc.opnd hg0 hy);obtain ⟨p,cc,tt,p1,p2,p3,p4,p5,p6⟩:=vec_store hc.cw hle r1 (by intro u hu;exact r2 u (by simpa using hu));rw [Rep] at hrx;obtain ⟨p',q1,q2,q3⟩:=hrx;simp only at q1;rw [p1] at q1;cases q1
        have hlu:=r1.length;simp at hlu;refine wp_skipv (w':=w.setCells p.block (p.off+ofs) (a.eval y).cells.toList) ?_ (hn .unit _ g0 _ _ hK p5 (by simp [Rep]) p6);have:=run_storeVar (P:=P) (w:=w) (t:=t) (b:=p.block) (o:=p.off+ofs) (u:=a.eval y) (by omega) (by omega) p3 (by simp at p4;omega) r2;simp [execOp,q3,this]
 case makeMap t rr=>
  cases rr with
  | some _=>simp [opL] at hq
  | none=>
    simp only [opL] at hq;obtain ⟨k,f1,f2,st,mk⟩:=hc.cw.newAt (.map #[] 0) 0;refine wp_value (u:=.map (some w.heap.size)) (w':=w.alloc (.map #[] 0)) ?_ (hn _ _ _ _ _ (hq k) (mk (.map []) ?_) ?_ (st _))
    ·have hm:(Instr.makeMap t none).run P w=.ok (.map (some w.heap.size)) (w.alloc (.map #[] 0)):=rfl;simp only [execOp,Option.map_none,hm,Sem.run_bind,Result.andThen,Sem.run_pure]
    ·exact ⟨⟨w.heap.size,0,none⟩,0,#[],by simp [Gh.set],by simp [Gh.set],heap_alloc_new w _,rfl,by simp,by simp⟩
    rw [Rep];exact ⟨⟨w.heap.size,0,none⟩,by simp [Gh.set],rfl⟩
 case mapUpdate t m k x=>
  simp only [opL] at hq;split at hq<;>try contradiction
  rename_i kt et hty;split at hq<;>try contradiction
  rename_i b hm;split at hq<;>try contradiction
  rename_i kv hk;split at hq<;>try contradiction
  rename_i v hv;obtain ⟨es,h',hu,⟨hfit,hget⟩,hK⟩:=hq;obtain ⟨l1,l2,rfl,rfl⟩:=Upd.split hu;have hrm:=hc.opnd hg0 hm;have hrk:=hc.opnd hg0 hk;have hrv:=hc.opnd hg0 hv;rw [Rep] at hrm;obtain ⟨p,hp,hmv⟩:=hrm;obtain ⟨p',cl,ents,o1,o2,o3,o4,o5,o6⟩:=hc.cw.obj b (.map es) (by simp);simp only at o1 o2 o3;rw [hp] at o1;cases o1
  have hck:=run_checkKey' (P:=P) (w:=w) hfit hrk false 9998;cases hg:mget P kt kv es with
  | none=>exact absurd hg hget
  | some r0=>
    obtain ⟨res,r1,r2⟩:=run_findKey' (P:=P) (w:=w) hfit hrk o4 hg;cases r0 with
    | none=>
      obtain ⟨rfl,hset⟩:=r2
      obtain ⟨s1,s2,s3⟩:=map_store (P:=P) (es':=mset P kt kv v es) (ents':=ents.push { key:=a.eval k,val:=a.eval x,born:=cl }) (cl':=cl+1) hc.cw hp o2 o3
       (by rw [hset v,Array.toList_push];exact EntsRep.append o4 hrk hrv)
       (by
         intro y hy;rw [Array.toList_push] at hy;rcases List.mem_append.1 hy with hy|hy
         ·have:=o5 y hy;omega
         simp at hy;subst hy;simp)
       (by
         rw [Array.toList_push,List.map_append,List.nodup_append];refine ⟨o6,by simp,?_⟩;intro q hq z hz e;simp at hz;subst hz;obtain ⟨y,hy,rfl⟩:=List.mem_map.1 hq;have:=o5 y hy;omega)
      refine wp_skipv (w':={ w with heap:=w.heap.setIfInBounds p.block (.map (ents.push { key:=a.eval k,val:=a.eval x,born:=cl }) (cl+1)) }) ?_ (hn .unit _ g0 _ _ hK s2 (by simp [Rep]) s3);have hgo:(getObj p.block).run P w=.ok (.map ents cl) w:=(by simp [getObj,Sem.run,o3]);simp only [execOp,hmv,Instr.mapUpdate,Sem.run_bind,run_und hty,Result.andThen_ok,hgo,hck,r1,s1,Sem.run_pure]
    | some v0=>
      obtain ⟨j,e,rfl,q2,q3,q4,q5⟩:=r2;have hmodb:=modify_born ents.toList j (a.eval k) (a.eval x)
      obtain ⟨s1,s2,s3⟩:=map_store (P:=P) (es':=mset P kt kv v es) (ents':=ents.modify j fun e=>{ e with key:=a.eval k,val:=a.eval x }) (cl':=cl) hc.cw hp o2 o3
       (q5 v (a.eval x) hrv)
       (by
         intro y hy;rw [Array.toList_modify] at hy;have hy':y.born∈ents.toList.map (·.born):=by rw [<- hmodb];exact List.mem_map.2 ⟨y,hy,rfl⟩
         obtain ⟨z,hz,e⟩:=List.mem_map.1 hy';have:=o5 z hz;omega)
       (by rw [Array.toList_modify,hmodb];exact o6)
      refine wp_skipv (w':={ w with heap:=w.heap.setIfInBounds p.block (.map (ents.modify j fun e=>{ e with key:=a.eval k,val:=a.eval x }) cl) }) ?_ (hn .unit _ g0 _ _ hK s2 (by simp [Rep]) s3);have hgo:(getObj p.block).run P w=.ok (.map ents cl) w:=(by simp [getObj,Sem.run,o3]);have hks:(Instr.keyThatStays e.key (a.eval k)).run P w=.ok (a.eval k) w:=(by simp [Instr.keyThatStays,q4]);simp only [execOp,hmv,Instr.mapUpdate,Sem.run_bind,run_und hty,Result.andThen_ok,hgo,hck,r1,q2,Option.map_some,Option.getD_some,hks,s1,Sem.run_pure]
 case range t x=>
  simp only [opL] at hq;split at hq<;>try contradiction
  ·rename_i kt et hty;split at hq<;>try contradiction
   rename_i m hm;obtain ⟨es,hin,hK⟩:=hq;have hrm:=hc.opnd hg0 hm;rw [Rep] at hrm;obtain ⟨p,hp,hmv⟩:=hrm;obtain ⟨l1,l2,rfl⟩:=List.append_of_mem hin;obtain ⟨p',bs,cl,ents,o1,o2,o3,o4,o5,o6⟩:=map_ranged hc.cw;simp only at hp;rw [hp] at o3;cases o3
   obtain ⟨h',hu,hK⟩:=hK bs cl ⟨o1,o2⟩;have hh:h'=l1++(m,.rmap es bs cl)::l2:=by obtain ⟨m1,m2,e1,rfl⟩:=Upd.split hu;have hnd:=hc.cw.nodup;obtain ⟨rfl,rfl⟩:=split_uniq hnd e1;rfl
   subst hh;obtain ⟨it,f1,f2,st,mk⟩:=o5.newAt (.mapIter (some p.block) cl #[] cl) 0;refine wp_value (u:=.pointer (some ⟨w.heap.size,0,none⟩)) (w':=w.alloc (.mapIter (some p.block) cl #[] cl)) ?_ (hn _ _ _ _ _ (hK it) (mk _ ?_) ?_ (o6.trans hc.cw.own (st _)))
   ·have hrun:=run_range_map (P:=P) w t kt et p.block ents cl hty o4;simp only [execOp,hmv,hrun,Sem.run_bind,Result.andThen,Sem.run_pure]
   ·have hne:m≠it:=fun e=>f1 (by rw [<- e,keys_mem];exact .inl rfl);exact ⟨⟨w.heap.size,0,none⟩,p,#[],by simp [Gh.set],by simp [Gh.set],heap_alloc_new w _,by simp [Gh.set,hne,hp],rfl⟩
   rw [Rep];exact ⟨⟨w.heap.size,0,none⟩,by simp [Gh.set],rfl⟩
  rename_i hty;split at hq<;>try contradiction
  rename_i s hx;have hrx:=hc.opnd hg0 hx;rw [Rep] at hrx;obtain ⟨bs,hxv,hbs,hsl⟩:=hrx;obtain ⟨it,f1,f2,st,mk⟩:=hc.cw.newAt (.stringIter bs 0) 0;refine wp_value (u:=.pointer (some ⟨w.heap.size,0,none⟩)) (w':=w.alloc (.stringIter bs 0)) ?_ (hn _ _ _ _ _ (hq it) (mk _ ?_) ?_ (st _))
  ·have hrun:(Instr.range t (.string bs)).run P w=.ok (.pointer (some ⟨w.heap.size,0,none⟩)) (w.alloc (.stringIter bs 0)):=by
    simp only [Instr.range,Sem.run_bind,run_und hty,Result.andThen_ok,Sem.run_pure];rfl
   simp only [execOp,hxv,hrun,Sem.run_bind,Result.andThen,Sem.run_pure]
  ·exact ⟨⟨w.heap.size,0,none⟩,bs,by simp [Gh.set],by simp [Gh.set],heap_alloc_new w _,hbs,hsl⟩
  rw [Rep];exact ⟨⟨w.heap.size,0,none⟩,by simp [Gh.set],rfl⟩
 case next x sb=>
  cases sb with
  | true=>
    simp only [opL] at hq;split at hq<;>try contradiction
    rename_i it hx;obtain ⟨s,pos,hin,hend,hgo⟩:=hq;have hrx:=hc.opnd hg0 hx;rw [Rep] at hrx;obtain ⟨p,hp,hxv⟩:=hrx;obtain ⟨p',bs,i1,i2,i3,i4,i5⟩:=hc.cw.obj it _ hin;simp only at i1 hp i2 i3;rw [hp] at i1;cases i1
    have hsz:bs.size=s.length:=by rw [<- i4];rfl
    have hbs:bs=⟨s.toArray⟩:=(by rw [<- i4]);by_cases hpos:pos<s.length
    ·obtain ⟨h',hu,hK⟩:=hgo hpos;obtain ⟨l1,l2,rfl,rfl⟩:=Upd.split hu;have hdec:Utf8.decode bs pos=decS s pos:=by rw [hbs];rfl
     obtain ⟨s1,s2,s3⟩:=siter_store (P:=P) (pos':=pos+(decS s pos).2) hc.cw hp i2 i3 i4 i5;refine wp_value (u:=.tuple #[.bool true,goInt pos,.int .i32 (decS s pos).1]) (w':={ w with heap:=w.heap.setIfInBounds p.block (.stringIter bs (pos+(decS s pos).2)) }) ?_ (hn _ _ g0 _ _ hK s2 ?_ s3)
     ·have hrun:(Instr.next (.pointer (some ⟨p.block,0,none⟩)) true ty).run P w=.ok (.tuple #[.bool true,goInt pos,.int .i32 (decS s pos).1]) { w with heap:=w.heap.setIfInBounds p.block (.stringIter bs (pos+(decS s pos).2)) }:=by
       simp only [Instr.next,Sem.run_bind,getObj_run i3,Result.andThen_ok,hsz,hpos,if_true,hdec,s1,Sem.run_pure]
      simp only [execOp,hxv,hrun,Sem.run_bind,Result.andThen,Sem.run_pure]
     rw [Rep];refine ⟨_,rfl,?_⟩;simp only [RepVs];refine ⟨_,_,rfl,by rw [Rep],_,_,rfl,by rw [Rep];exact ⟨rfl,has_i64_len (by omega)⟩,_,_,rfl,?_,rfl⟩;rw [Rep];refine ⟨rfl,?_⟩;have:=decode_le bs pos;rw [hdec] at this;constructor<;>simp [IntKind.min,IntKind.max,IntKind.signed,IntKind.bits]<;>omega
    have hK:=hend (by omega);refine wp_value (u:=.tuple #[.bool false]) (w':=w) ?_ (hn _ _ g0 _ _ hK hc.cw ?_ (Step.refl _ _ _ _))
    ·have hrun:(Instr.next (.pointer (some ⟨p.block,0,none⟩)) true ty).run P w=.ok (.tuple #[.bool false]) w:=by
      simp only [Instr.next,Sem.run_bind,getObj_run i3,Result.andThen_ok,hsz,hpos,if_false,Sem.run_pure]
     simp only [execOp,hxv,hrun,Sem.run_bind,Result.andThen,Sem.run_pure]
    rw [Rep];refine ⟨_,rfl,?_⟩;simp only [RepVs];exact ⟨_,_,rfl,by rw [Rep],rfl⟩
  | false=>
    simp only [opL] at hq;split at hq<;>try contradiction
    rename_i it hx;obtain ⟨m,cl,seen,es,bs,hin,hmin,hend,hgo⟩:=hq;have hrx:=hc.opnd hg0 hx;rw [Rep] at hrx;obtain ⟨p,hp,hxv⟩:=hrx;obtain ⟨p',pm,sa,i1,i2,i3,i4,i5⟩:=hc.cw.obj it _ hin;obtain ⟨pm',ents,m1,m2,m3,m4,m5,m6,m7⟩:=hc.cw.obj m _ hmin;simp only at hp i1 i2 i3 i4 m1 m2 m3;rw [hp] at i1;cases i1
    rw [i4] at m1;cases m1
    rcases run_next_any (P:=P) (w:=w) ty p.block pm.block cl sa ents i3 m3 m5 with ⟨h0,hrun⟩|⟨e,he,w1,hal,hrun⟩
    ·refine wp_value (u:=.tuple #[.bool false]) (w':=w) ?_ (hn _ _ g0 _ _ (hend ?_) hc.cw ?_ (Step.refl _ _ _ _))
     ·simp only [execOp,hxv,hrun,Sem.run_bind,Result.andThen,Sem.run_pure]
     ·intro b hb;rw [<- m7] at hb;obtain ⟨e,he,rfl⟩:=List.mem_map.1 hb;rw [<- i5];cases hcon:sa.contains e.born with
      | true=>simpa using hcon
      | false=>
        have:e∈(leftOf ents sa).toList:=by unfold leftOf;rw [Array.mem_toList_iff,Array.mem_filter];exact ⟨Array.mem_toList_iff.1 he,by rw [hcon];rfl⟩
        rw [show leftOf ents sa=#[] by simpa using h0] at this;simp at this
     rw [Rep];exact ⟨#[.bool false],rfl,by simp [RepVs,Rep]⟩
    obtain ⟨he1,he2⟩:=mem_left he;obtain ⟨i,hi⟩:=List.getElem?_of_mem he1;have hbi:bs[i]?=some e.born:=by rw [<- m7,List.getElem?_map,hi];rfl
    have hlt:i<es.length:=by rw [EntsRep.len m4];exact (List.getElem?_eq_some_iff.1 hi).1
    obtain ⟨x0,hx0⟩:∃ x0,es[i]?=some x0:=⟨_,List.getElem?_eq_getElem hlt⟩;obtain ⟨e',q1,q2,q3⟩:=EntsRep.get m4 hx0;rw [hi] at q1;cases q1
    obtain ⟨h',hu,hK⟩:=hgo i e.born x0 hbi hx0 (by rw [<- i5];intro hm;have:sa.contains e.born=true:=(by simpa using hm);rw [he2] at this;cases this);obtain ⟨l1,l2,rfl,rfl⟩:=Upd.split hu;obtain ⟨s1,s2⟩:=iter_store (sa':=sa.push e.born) (seen':=seen++[e.born]) hc.cw hal hp i2 i3 i4 (by simp [i5]);refine wp_value (u:=.tuple #[.bool true,e.key,e.val]) (w':={ w1 with heap:=w1.heap.setIfInBounds p.block (.mapIter (some pm.block) cl (sa.push e.born) cl) }) ?_ (hn _ _ g0 _ _ hK s1 ?_ s2)
    ·simp only [execOp,hxv,hrun,Sem.run_bind,Result.andThen,Sem.run_pure]
    rw [Rep];refine ⟨_,rfl,?_⟩;simp only [RepVs];exact ⟨_,_,rfl,by simp [Rep],_,_,rfl,Rep.mono (Step.le s2) _ _ q2,_,_,rfl,Rep.mono (Step.le s2) _ _ q3,rfl⟩
 case entry x=>
  simp only [opL] at hq;split at hq<;>try contradiction
  rename_i it hx;obtain ⟨m,cl,seen,es,bs,hin,hmin,i,b,x0,s0,rfl,hbi,hx0,hK⟩:=hq;have hrx:=hc.opnd hg0 hx;rw [Rep] at hrx;obtain ⟨p,hp,hxv⟩:=hrx;obtain ⟨p',pm,sa,i1,i2,i3,i4,i5⟩:=hc.cw.obj it _ hin;obtain ⟨pm',ents,m1,m2,m3,m4,m5,m6,m7⟩:=hc.cw.obj m _ hmin;simp only at hp i1 i2 i3 i4 m1 m2 m3;rw [hp] at i1;cases i1
  rw [i4] at m1;cases m1
  obtain ⟨e,q1,q2,q3⟩:=EntsRep.get m4 hx0;have hbe:e.born=b:=by rw [<- m7,List.getElem?_map,q1] at hbi;simpa using hbi
  have hback:sa.back?=some e.born:=by rw [hbe,<- Array.getLast?_toList,i5];simp
  have hrun:=run_entry_any (P:=P) (w:=w) p.block pm.block cl cl sa ents e i3 m3 hback (List.mem_of_getElem? q1) m6;refine wp_value (u:=.tuple #[e.key,e.val]) (w':=w) ?_ (hn _ _ g0 _ _ hK hc.cw ?_ (Step.refl _ _ _ _))
  ·simp only [execOp,hxv,hrun,Sem.run_bind,Result.andThen,Sem.run_pure]
  rw [Rep];refine ⟨_,rfl,?_⟩;simp only [RepVs];exact ⟨_,_,rfl,q2,_,_,rfl,q3,rfl⟩
 case makeSlice t x y=>
  simp only [opL] at hq;cases hud:P.underlying t with
  | none=>simp [hud] at hq
  | some d=>
  cases d<;>try (simp [hud] at hq;done)
  rename_i e;simp only [hud] at hq;cases hx:opnd r [] x with
  | none=>simp [hx] at hq
  | some vx=>
  have hrx:=hc.opnd hg0 hx;cases vx<;>try (simp [hx] at hq;done)
  rename_i kx m;simp only [hx] at hq;cases hy:opnd r [] y with
  | none=>simp [hy] at hq
  | some vy=>
  have hry:=hc.opnd hg0 hy;cases vy<;>try (simp [hy] at hq;done)
  rename_i ky m';simp only [hy] at hq;cases hz:zeroCs P e with
  | none=>simp [hz] at hq
  | some z=>
  simp only [hz] at hq;split at hq<;>try contradiction
  rename_i q1;split at hq<;>try contradiction
  rename_i q2;split at hq<;>try contradiction
  rename_i q3;have q1:=Nat.eq_of_beq_eq_true q1;have q2:=Nat.le_of_ble_eq_true q2;have q3:=Nat.le_of_ble_eq_true q3;obtain ⟨⟨rfl,q4,q5⟩,hK⟩:=hq;obtain ⟨i,zv,hi,hzv,hzr,hz1⟩:=zeroCs_ok (c:=⟨g0,live X h,w⟩) hz;have hisz:i.size=P.cellsOf e:=(by simp [Program.cellsOf,hi]);have hib:i.bytes=P.bytesOf e:=(by simp [Program.bytesOf,hi]);have hzl:zv.cells.size=z.length:=by have:=hzr.length;simpa using this
  rw [Rep] at hrx hry;obtain ⟨m,rfl⟩:=Int.eq_ofNat_of_zero_le q4;have hbytes:(i.bytes:Int)*(m:Int)<=281474976710656:=by have h1:i.bytes*m<=4096*4294967296:=Nat.mul_le_mul (by omega) (by omega);have h2:((i.bytes*m:Nat):Int)<=281474976710656:=(by omega);rwa [Int.natCast_mul] at h2
  have hrun:=run_make (P:=P) w t e i zv hud hi hzv kx ky (m:Int) (m:Int) q4 (Int.le_refl _) hbytes (by omega);simp only [Int.toNat_natCast] at hrun hK;have hcells:(madeCells zv.cells (m*i.size)).toList=(List.replicate m zv.cells.toList).flatten:=by rw [hisz,<- q1,<- hzl];exact made_eq zv.cells (by omega) m
  have hrep:=RepVs.repl hzr m;rw [<- hcells] at hrep
  obtain ⟨k,g',k1,k2,k3⟩:=hc.cw.newVec e hrep (by
   intro u hu;have:u∈(List.replicate m zv.cells.toList).flatten:=by rw [<- hcells];simpa using hu
   simp only [List.mem_flatten,List.mem_replicate] at this;obtain ⟨l,⟨_,rfl⟩,hu⟩:=this;exact hz1 u (by simpa using hu))
  refine wp_value (w':=w.alloc (.cells (madeCells zv.cells (m*i.size)) e)) (u:=.slice (some ⟨w.heap.size,0,none⟩) m m) ?_ (hn _ _ g' _ _ (hK k) k2 ?_ k3)
  ·simp only [execOp,hrx.1,hry.1,hrun,Sem.run_bind,Result.andThen,Sem.run_pure]
  rw [Rep];refine ⟨_,m,0,k1,rfl,rfl,Nat.le_refl _,by unfold LMAX;omega,by omega,?_,fun _=>rfl,by unfold CAPM;omega⟩;refine ⟨_,_,_,heap_alloc_new w _,?_⟩;simp [size_madeCells,hisz,q1]
 case buildSlice t m parts=>
  simp only [opL] at hq;cases hud:P.underlying t with
  | none=>simp [hud] at hq
  | some d=>
  cases d<;>try (simp [hud] at hq;done)
  rename_i e;simp only [hud] at hq;cases hl:elemsOf r [] (P.cellsOf e) 0 parts.toList with
  | none=>simp [hl] at hq
  | some l=>
  simp only [hl] at hq;split at hq<;>try contradiction
  rename_i q1;split at hq<;>try contradiction
  rename_i q2;split at hq<;>try contradiction
  rename_i q3;cases hz:zeroCs P e with
  | none=>simp [hz] at hq
  | some z=>
  simp only [hz] at hq;split at hq<;>try contradiction
  rename_i q4;have q1:=Nat.eq_of_beq_eq_true q1;have q2:=Nat.le_of_ble_eq_true q2;have q3:=Nat.le_of_ble_eq_true q3;have q4:=Nat.eq_of_beq_eq_true q4;obtain ⟨ie,zv,hie,hzv,hzr,hzo⟩:=zeroCs_ok (c:=⟨g0,live X h,w⟩) hz;have hsz:ie.size=P.cellsOf e:=(by simp [Program.cellsOf,hie]);have hzl:zv.cells.size=P.cellsOf e:=by have:=hzr.length;simp at this;omega
  have hzget:∀ u∈(Array.range (m*P.cellsOf e)).map (zv.cells[· % zv.cells.size]!),u.oneCell'=true:=by intro u hu;obtain ⟨j,hj,rfl⟩:=Array.mem_map.1 hu;have hlt:j % zv.cells.size<zv.cells.size:=Nat.mod_lt _ (by omega);rw [getElem!_pos zv.cells _ hlt];exact hzo _ (Array.getElem_mem _)
  by_cases hm:m=0
  ·subst hm;have hl0:l=[]:=List.eq_nil_of_length_eq_zero q1;subst hl0
   have hps:parts.toList=[]:=by
    cases hh:parts.toList with
    | nil=>rfl
    | cons q qs=>
      rw [hh] at hl;obtain ⟨i0,x0⟩:=q;unfold elemsOf at hl
      (repeat' split at hl)<;>simp_all
   have hpe:parts=#[]:=(by simpa using hps);obtain ⟨c1,c2⟩:=hc.cw.alloc (.cells #[] e);obtain ⟨q,c3,c4⟩:=c1.newKey;refine wp_value (u:=.slice (some ⟨w.heap.size,0,none⟩) 0 0) (w':=w.alloc (.cells #[] e)) ?_ (hn _ _ g0 _ _ (hq q) c3 ?_ (c2.trans hc.cw.own c4))
   ·have e0:(Array.map (fun _=>(default:Value)) (Array.range 0))=#[]:=(by simp [Array.range]);simp [execOp,Instr.buildSlice,run_und hud,run_sizeT hie,hpe,Instr.fill,newRow,e0]
   simp only [Rep];exact ⟨_,0,rfl,by simp,by simp,by omega,by simp,by simp,by simp [RepEs],fun _ _=>.inl rfl⟩
  obtain ⟨res,us,e1,e2,e3,e4,e5,e6,e7⟩:=elems_ok hc hg0 hl ((Array.range (m*P.cellsOf e)).map (zv.cells[· % zv.cells.size]!))
   (by
     have:∀ (ps:List (Nat × Operand)) (k:Nat) (l:List (List AV)),elemsOf r [] (P.cellsOf e) k ps=some l->l.length=ps.length:=by
      intro ps;induction ps with
      | nil=>intro k l hh;simp [elemsOf] at hh;subst hh;rfl
      | cons q qs ih=>
        intro k l hh;obtain ⟨i0,x0⟩:=q;unfold elemsOf at hh;split at hh<;>try contradiction
        split at hh<;>try contradiction
        split at hh<;>try contradiction
        split at hh<;>try contradiction
        split at hh<;>try contradiction
        rename_i l' hr;cases hh
        simp [ih _ _ hr]
     have:=this _ _ _ hl;rw [Nat.zero_add,<- this,q1];simp) hzget
  have hml:parts.toList.length=m:=(by omega);have hmpos:0<m*P.cellsOf e:=Nat.mul_pos (by omega) (by omega);have hres:res.toList=us:=by rw [e6];simp only [Nat.zero_mul,List.take_zero,List.nil_append,Nat.zero_add,hml];rw [List.drop_of_length_le (by simp)];simp
  have hrun:=run_buildSlice (P:=P) w t e m (parts.map fun (i,x)=>(i,a.eval x)) res ie zv hud hie hzv (by rw [hsz];omega) (by rw [hsz];omega)
   (by rw [hsz];simpa using e1)
  obtain ⟨c1,c2⟩:=hc.cw.alloc (.cells res e);obtain ⟨q,c3,c4⟩:=c1.newKey;refine wp_value (u:=.slice (some ⟨w.heap.size,0,none⟩) m m) (w':=w.alloc (.cells res e)) ?_ (hn _ _ g0 _ _ (hq q) c3 ?_ (c2.trans hc.cw.own c4))
  ·simp [execOp,hrun]
  have hcs:=RepCs.new (t:=e) (us:=res) hc.cw (by rw [hres];exact e4) e7;simp only [Rep];have hml64:m<=65536:=Nat.le_trans (Nat.le_mul_of_pos_right m (by omega)) q3;refine ⟨_,m,by rw [q1],by omega,by rw [q1];unfold LMAX;omega,by omega,by simp,by simp,?_,fun _ _=>.inl (by rw [q1])⟩;intro ad ha;simp at ha;subst ha;exact RepEs.mono (Step.le c4) _ _ _ _ (RepEs.flat e3 hcs)
 case call cl=>
  unfold opL at hq;simp only at hq;split at hq
  ·rename_i f hcal;cases hl:opnds r [] cl.args.toList with
   | none=>simp [hl] at hq
   | some l=>
   simp only [hl] at hq
   have hrun:(execOp a.eval ⟨dst,.call cl,ty,pos,aft,gd⟩).run P w=(callFunc f (cl.args.map a.eval++#[])).run P w:=
    run_callF rfl ⟨_,hcal,rfl⟩
   exact wp_call (us:=cl.args.map a.eval) hq hc.cw (by simpa using hc.opnds hg0 hl) (by simpa using hrun) hn
  ·rename_i t hcal;cases hx:opnd r [] (.tmp t) with
   | none=>simp [hx] at hq
   | some x=>
   cases x<;>try (simp [hx] at hq;done)
   rename_i f caps;simp only [hx] at hq;cases hl:opnds r [] cl.args.toList with
   | none=>simp [hl] at hq
   | some l=>
   simp only [hl] at hq;have hr:=hc.opnd hg0 hx;rw [Rep] at hr;obtain ⟨us,hfv,hus⟩:=hr
   have hrun:(execOp a.eval ⟨dst,.call cl,ty,pos,aft,gd⟩).run P w=(callFunc f (cl.args.map a.eval++us)).run P w:=
    run_callF rfl ⟨_,hcal,hfv⟩
   exact wp_call hq hc.cw (by simpa using RepVs.append (hc.opnds hg0 hl) hus) hrun hn
  ·rename_i hcal;split at hq<;>try contradiction
   rename_i t tx hat;split at hq<;>try contradiction
   rename_i e hud htx;split at hq<;>try contradiction
   rename_i hk1;split at hq<;>try contradiction
   rename_i hbt;split at hq<;>try contradiction
   rename_i z hz;split at hq<;>try contradiction
   rename_i hzl;have hk1:=Nat.le_of_ble_eq_true hk1;have hbt:=Nat.le_of_ble_eq_true hbt;have hzl:=Nat.eq_of_beq_eq_true hzl;split at hq<;>try contradiction
   ·rename_i b2 o2 n2 k2 hl;split at hq<;>try contradiction
    rename_i hk2;have hk2:=Nat.eq_of_beq_eq_true hk2;obtain ⟨cs2,ys,hin,⟨hcs,hyk,hyn⟩,⟨hpos,hmax⟩,hK⟩:=hq;have hrs:=hc.opnds hg0 hl;simp only [RepVs] at hrs;obtain ⟨u,rr,e1,h1,u2,rr2,e2,h2,h3⟩:=hrs;subst e2 h3;rw [Rep] at h1;subst h1;have hrun:=append_arrays (P:=P) (a:=a) (w:=w) (o:=⟨dst,.call cl,ty,pos,aft,gd⟩) (b:=#[]) rfl hcal hat e1;obtain ⟨i,zv,hi,hzv,hzr,hz1⟩:=zeroCs_ok (c:=⟨g0,live X h,w⟩) hz;have hisz:i.size=P.cellsOf e:=(by simp [Program.cellsOf,hi]);have hib:i.bytes=P.bytesOf e:=(by simp [Program.bytesOf,hi]);have hzs:zv.cells.size=P.cellsOf e:=by have:=hzr.length;simp at this;omega
    obtain ⟨news,n1,n2',n3,n4,n5⟩:=srcO_ok (P:=P) hc.cw hin h2 hcs hyk hyn;have hnl:news.length=ys.length*k2:=by rw [n3.length,flat_length n4]
    have hrn:=run_append_grow' (P:=P) (w:=w) (ty:=ty) (i:=i) (z:=zv) (m:=ys.length) (sLen:=0) (sCap:=0) (base:=none) (olds:=[]) hud htx hi hzv n1 (by rw [hisz,<- hk2];exact n2' w.drew rfl)
     (by simp [Builtin.firstCells]) (by omega) (by omega) (by omega)
    refine wp_value (hrun _ _ hrn) ?_;obtain ⟨c1,s1⟩:=hc.cw.drew;have hcapw:=grownCap_ge w (0+ys.length) 0 e;have hcapm:=grownCap_le_maxLen w (0+ys.length) 0 e (by unfold maxLen;unfold AMAX at hmax;omega)
    obtain ⟨b',g',k1,k2',k3⟩:=c1.newVecZ (l:=ys.flatten) (us:=[]++news) (Z:=Builtin.zeroCells zv.cells (grownCap w (0+ys.length) 0 e - (0+ys.length))) e
     (RepVs.mono (Step.le s1) _ _ (by simpa using n3)) (by simpa using n5)
    refine hn _ _ g' _ _ (hK b') k2' ?_ (s1.trans hc.cw.own k3);rw [Rep];refine ⟨_,grownCap w (0+ys.length) 0 e,0,k1,rfl,by rw [Nat.zero_add,hyn];rfl,by omega,by unfold LMAX;unfold AMAX at hmax;omega,by omega,?_,fun _=>rfl,by unfold CAPM;unfold maxLen at hcapm;omega⟩;refine ⟨_,_,_,heap_alloc_new w.drew _,?_⟩;simp only [Array.size_append,List.size_toArray,size_zeroCells,hzs,List.length_append,hnl,List.length_nil];have e3:ys.length*k2+(grownCap w (0+ys.length) 0 e - (0+ys.length))*k2=grownCap w (0+ys.length) 0 e*k2:=by rw [<- Nat.add_mul];congr 1;omega
    rw [hk2] at e3 ⊢;simp only [Nat.zero_add] at e3 ⊢;omega
   ·rename_i b off n' c k b2 o2 n2 k2 hl;split at hq<;>try contradiction
    rename_i hk hk2;have hk:=Nat.eq_of_beq_eq_true hk;have hk2:=Nat.eq_of_beq_eq_true hk2;subst hk2;obtain ⟨cs2,ys,hin2,⟨hcs2,hyk,hyn⟩,hmax,cs,hin,hq⟩:=hq;have hrs:=hc.opnds hg0 hl;simp only [RepVs] at hrs;obtain ⟨u,rr,e1,h1,u2,rr2,e2,h2,h3⟩:=hrs;subst e2 h3;have hrun:=append_arrays (P:=P) (a:=a) (w:=w) (o:=⟨dst,.call cl,ty,pos,aft,gd⟩) (b:=#[]) rfl hcal hat e1;have hsrc:=srcO_ok (P:=P) hc.cw hin2 h2 hcs2 hyk hyn;subst hyn;rcases hq with ⟨hroom,hcs,h',hu,hK⟩|⟨hg,hcs,hK⟩
    ·obtain ⟨l1,l2,rfl,rfl⟩:=Upd.split hu;exact oslc_room hc.cw hud htx hk1 hk hcs hmax hroom hsrc h1 hrun hK hn
    exact oslc_grow hc.cw hin hud htx hk1 hbt hz hzl hk hcs hmax hg hsrc h1 hrun hK hn
   ·rename_i y hl;split at hq<;>try contradiction
    rename_i ys hys;obtain ⟨hmax,hK⟩:=hq;have hrs:=hc.opnds hg0 hl;simp only [RepVs] at hrs;obtain ⟨u,rr,e1,h1,u2,rr2,e2,h2,h3⟩:=hrs;subst e2 h3;rw [Rep] at h1;subst h1;have hrun:=append_arrays (P:=P) (a:=a) (w:=w) (o:=⟨dst,.call cl,ty,pos,aft,gd⟩) (b:=#[]) rfl hcal hat e1;obtain ⟨i,zv,hi,hzv,hzr,hz1⟩:=zeroCs_ok (c:=⟨g0,live X h,w⟩) hz;have hisz:i.size=P.cellsOf e:=(by simp [Program.cellsOf,hi]);have hib:i.bytes=P.bytesOf e:=(by simp [Program.bytesOf,hi]);have hzs:zv.cells.size=P.cellsOf e:=by have:=hzr.length;simp at this;omega
    obtain ⟨news,n1,n2,n3,n4,n5⟩:=src_ok (c:=⟨g0,live X h,w⟩) hys h2;have hnl:news.length=ys.length*P.cellsOf e:=(by rw [n3.length,flat_length n4]);by_cases hm:ys=[]
    ·subst hm;have hn0:news=[]:=List.eq_nil_of_length_eq_zero (by rw [hnl];simp);subst hn0;obtain ⟨q,c1,c2⟩:=hc.cw.newKey;refine wp_value (w':=w) (hrun _ _ (run_append_room' (w':=w) (m:=0) (i:=i) hud htx hi (by simpa using n1) (by simpa [hisz] using n2 w rfl) (by omega) (by simp) (fun _=>rfl))) ?_;refine hn _ _ g0 _ w (hK q) c1 ?_ c2;simp only [Rep];exact ⟨none,0,by simp,by simp,by simp,by omega,by simp,by simp,by simp,fun _ _=>.inl rfl⟩
    have hpos:0<ys.length:=List.length_pos_iff.2 hm
    have hrn:=run_append_grow' (P:=P) (w:=w) (ty:=ty) (i:=i) (z:=zv) (m:=ys.length) (sLen:=0) (sCap:=0) (base:=none) (olds:=[]) hud htx hi hzv n1 (by rw [hisz];exact n2 w.drew rfl)
     (by simp [Builtin.firstCells]) (by omega) (by omega) (by omega)
    refine wp_value (hrun _ _ hrn) ?_
    have hfin:=grown_ok (xs:=ys) (us:=news) (k:=P.cellsOf e) (e:=e)
     (cap:=grownCap w (0+ys.length) 0 e) (Z:=Builtin.zeroCells zv.cells (grownCap w (0+ys.length) 0 e - (0+ys.length)))
     hc.cw n3 n4 n5 (by omega) hmax (by have:=grownCap_ge w (0+ys.length) 0 e;omega) ?_ hK hn
    ·simpa using hfin
    have:=grownCap_ge w (0+ys.length) 0 e;rw [size_zeroCells,hzs,hnl,<- Nat.add_mul];congr 1;omega
   ·rename_i y hl;split at hq<;>try contradiction
    rename_i ys hys;obtain ⟨⟨hpos,hmax⟩,hK⟩:=hq;have hrs:=hc.opnds hg0 hl;simp only [RepVs] at hrs;obtain ⟨u,rr,e1,h1,u2,rr2,e2,h2,h3⟩:=hrs;subst e2 h3;rw [Rep] at h1;subst h1;have hrun:=append_arrays (P:=P) (a:=a) (w:=w) (o:=⟨dst,.call cl,ty,pos,aft,gd⟩) (b:=#[]) rfl hcal hat e1;obtain ⟨i,zv,hi,hzv,hzr,hz1⟩:=zeroCs_ok (c:=⟨g0,live X h,w⟩) hz;have hisz:i.size=P.cellsOf e:=(by simp [Program.cellsOf,hi]);have hib:i.bytes=P.bytesOf e:=(by simp [Program.bytesOf,hi]);have hzs:zv.cells.size=P.cellsOf e:=by have:=hzr.length;simp at this;omega
    obtain ⟨news,n1,n2,n3,n4,n5⟩:=src_ok (c:=⟨g0,live X h,w⟩) hys h2;have hnl:news.length=ys.length*P.cellsOf e:=by rw [n3.length,flat_length n4]
    have hrn:=run_append_grow' (P:=P) (w:=w) (ty:=ty) (i:=i) (z:=zv) (m:=ys.length) (sLen:=0) (sCap:=0) (base:=none) (olds:=[]) hud htx hi hzv n1 (by rw [hisz];exact n2 w.drew rfl)
     (by simp [Builtin.firstCells]) (by omega) (by omega) (by omega)
    refine wp_value (hrun _ _ hrn) ?_;obtain ⟨c1,s1⟩:=hc.cw.drew;have hcapw:=grownCap_ge w (0+ys.length) 0 e
    obtain ⟨b',g',k1,k2,k3⟩:=c1.newVecZ (l:=ys.flatten) (us:=[]++news) (Z:=Builtin.zeroCells zv.cells (grownCap w (0+ys.length) 0 e - (0+ys.length))) e
     (RepVs.mono (Step.le s1) _ _ (by simpa using n3)) (by simpa using n5)
    refine hn _ _ g' _ _ (hK b') k2 ?_ (s1.trans hc.cw.own k3);rw [Rep];have hcapm:=grownCap_le_maxLen w (0+ys.length) 0 e (by unfold maxLen;unfold AMAX at hmax;omega);refine ⟨_,grownCap w (0+ys.length) 0 e,0,k1,rfl,by rw [Nat.zero_add];rfl,by omega,by unfold LMAX;unfold AMAX at hmax;omega,hk1,?_,fun _=>rfl,by unfold CAPM;unfold maxLen at hcapm;omega⟩;refine ⟨_,_,_,heap_alloc_new w.drew _,?_⟩;simp only [Array.size_append,List.size_toArray,size_zeroCells,hzs,List.length_append,hnl,List.length_nil];have e3:ys.length*P.cellsOf e+(grownCap w (0+ys.length) 0 e - (0+ys.length))*P.cellsOf e=grownCap w (0+ys.length) 0 e*P.cellsOf e:=by rw [<- Nat.add_mul];congr 1;omega
    simp only [Nat.zero_add] at e3 ⊢;omega
   ·rename_i b n' k y hl;split at hq<;>try contradiction
    rename_i hk;have hk:=Nat.eq_of_beq_eq_true hk;split at hq<;>try contradiction
    rename_i ys hys;obtain ⟨cs,hin,⟨hcs,hmax⟩,hK⟩:=hq;have hrs:=hc.opnds hg0 hl;simp only [RepVs] at hrs;obtain ⟨u,rr,e1,h1,u2,rr2,e2,h2,h3⟩:=hrs;subst e2 h3;have hrun:=append_arrays (P:=P) (a:=a) (w:=w) (o:=⟨dst,.call cl,ty,pos,aft,gd⟩) (b:=#[]) rfl hcal hat e1;obtain ⟨l1,l2,rfl⟩:=List.append_of_mem hin;refine own_append hc.cw hud htx hk1 hbt hz hzl hk hys hcs hmax h1 h2 hrun (fun b'=>?_) hn;obtain ⟨h',hu,hK⟩:=hK b';obtain ⟨m1,m2,e1,rfl⟩:=Upd.split hu;obtain ⟨rfl,rfl⟩:=split_uniq hc.cw.nodup e1;exact hK
   ·rename_i k q xs b2 o2 n2 k2 hl;split at hq<;>try contradiction
    rename_i hk hk2;have hk:=Nat.eq_of_beq_eq_true hk;have hk2:=Nat.eq_of_beq_eq_true hk2;subst hk2;obtain ⟨cs,ys,hin,⟨hcs,hyk,hyn⟩,hmax,hK⟩:=hq;have hrs:=hc.opnds hg0 hl;simp only [RepVs] at hrs;obtain ⟨u,rr,e1,h1,u2,rr2,e2,h2,h3⟩:=hrs;subst e2 h3;have hrun:=append_arrays (P:=P) (a:=a) (w:=w) (o:=⟨dst,.call cl,ty,pos,aft,gd⟩) (b:=#[]) rfl hcal hat e1;obtain ⟨h',hu,_⟩:=hK 0;have hsrc:=srcO_ok (P:=P) hc.cw hin h2 hcs hyk hyn;obtain ⟨l1,l2,rfl,_⟩:=Upd.split hu;exact append_okS hc.cw hud htx hk1 hbt hz hzl hk hsrc hmax h1 hrun hK hn
   ·rename_i k q xs y hl;split at hq<;>try contradiction
    rename_i hk;have hk:=Nat.eq_of_beq_eq_true hk;split at hq<;>try contradiction
    rename_i ys hys;obtain ⟨hmax,hK⟩:=hq;have hrs:=hc.opnds hg0 hl;simp only [RepVs] at hrs;obtain ⟨u,rr,e1,h1,u2,rr2,e2,h2,h3⟩:=hrs;subst e2 h3;have hrun:=append_arrays (P:=P) (a:=a) (w:=w) (o:=⟨dst,.call cl,ty,pos,aft,gd⟩) (b:=#[]) rfl hcal hat e1;obtain ⟨h',hu,_⟩:=hK 0;obtain ⟨l1,l2,rfl,_⟩:=Upd.split hu;exact append_ok hc.cw hud htx hk1 hbt hz hzl hk hys hmax h1 h2 hrun hK hn
   rename_i e hud htx;split at hq<;>try contradiction
   rename_i kn hkn;split at hq<;>try contradiction
   rename_i hk1;split at hq<;>try contradiction
   rename_i hbt;split at hq<;>try contradiction
   rename_i z hz;split at hq<;>try contradiction
   rename_i hzl;split at hq<;>try contradiction
   rename_i b off n' c k kq m hl;split at hq<;>try contradiction
   rename_i hk;have hk1:=Nat.le_of_ble_eq_true hk1;have hbt:=Nat.le_of_ble_eq_true hbt;have hzl:=Nat.eq_of_beq_eq_true hzl;have hk:=Nat.eq_of_beq_eq_true hk;obtain ⟨cs,hin,⟨hm0,hg,hmax,hcs⟩,hK⟩:=hq;have hrs:=hc.opnds hg0 hl;simp only [RepVs] at hrs;obtain ⟨u,rr,e1,h1,u2,rr2,e2,h2,h3⟩:=hrs;subst e2 h3;rw [Rep] at h2;obtain ⟨rfl,_⟩:=h2;have hrun:=append_arrays (P:=P) (a:=a) (w:=w) (o:=⟨dst,.call cl,ty,pos,aft,gd⟩) (b:=#[]) rfl hcal hat e1;obtain ⟨m,rfl⟩:=Int.eq_ofNat_of_zero_le (Int.le_of_lt hm0);exact oslc_zeros hc.cw hin hud hkn hk1 hbt hz hzl hk hcs (by omega) (by omega) (by omega) h1 hrun hK hn
  ·rename_i hcal;split at hq<;>try contradiction
   rename_i t tx hat;split at hq<;>try contradiction
   rename_i e hud;split at hq<;>try contradiction
   ·rename_i b o m k b2 o2 n2 k2 hl;split at hq<;>try contradiction
    rename_i hk hk2 hk1;have hk:=Nat.eq_of_beq_eq_true hk;have hk2:=Nat.eq_of_beq_eq_true hk2;have hk1:=Nat.le_of_ble_eq_true hk1;subst hk2;obtain ⟨cs2,ys,hin,⟨hcs,hyk,hyn⟩,cs,h',hu,⟨hpos,hle⟩,hK⟩:=hq;have hrs:=hc.opnds hg0 hl;simp only [RepVs] at hrs;obtain ⟨u,rr,e1,h1,u2,rr2,e2,h2,h3⟩:=hrs;subst e2 h3;have h2':∃ u2',Rep ⟨g0,live X h,w⟩ (.osl b2 o2 (min n2 m) k2) u2'/\(∀ w',(Builtin.lenOf u2).run P w'=.ok n2 w')/\(∀ c j,Builtin.firstCells c j u2=Builtin.firstCells c j u2'):=by rw [Rep] at h2;obtain ⟨p,cap,o',x1,x2,rfl,x3,x4,x5,x6,x7,x8⟩:=h2;refine ⟨.slice (some ⟨p.block,p.off+o',none⟩) (min n2 m) cap,?_,fun w'=>by simp [Builtin.lenOf],fun c j=>rfl⟩;rw [Rep];exact ⟨p,cap,o',x1,x2,rfl,by omega,by omega,x5,x6,x7,x8⟩
    obtain ⟨u2',r1,r2,r3⟩:=h2';obtain ⟨news,n1,n3,n4,n5,n6⟩:=srcO_ok (P:=P) hc.cw hin r1 hcs hyk hyn;exact copy_ok hc hud hk hk1 hu h1 hcal hat e1 hle (by omega) (by rw [hyn];exact hK) hn (n:=n2) hyn r2 (fun w' hw=>by rw [r3,<- hk];exact n3 w' hw) n4 n6
   ·rename_i b o m k b2 o2 n2 c2 k2 hl;split at hq<;>try contradiction
    rename_i hk hk2 hk1;have hk:=Nat.eq_of_beq_eq_true hk;have hk2:=Nat.eq_of_beq_eq_true hk2;have hk1:=Nat.le_of_ble_eq_true hk1;subst hk2;obtain ⟨cs2,ys,hin,⟨hcs,hyk,hyn⟩,cs,h',hu,⟨hpos,hle⟩,hK⟩:=hq;have hrs:=hc.opnds hg0 hl;simp only [RepVs] at hrs;obtain ⟨u,rr,e1,h1,u2,rr2,e2,h2,h3⟩:=hrs;subst e2 h3;obtain ⟨r2,u2',r1,r3⟩:=oslc_src (P:=P) (m:=m) h2;obtain ⟨news,n1,n3,n4,n5,n6⟩:=srcO_ok (P:=P) hc.cw hin r1 hcs hyk hyn;exact copy_ok hc hud hk hk1 hu h1 hcal hat e1 hle (by omega) (by rw [hyn];exact hK) hn (n:=n2) hyn r2 (fun w' hw=>by rw [r3,<- hk];exact n3 w' hw) n4 n6
   ·rename_i b o m c k b2 o2 n2 c2 k2 hl;split at hq<;>try contradiction
    rename_i hk hk2 hk1;have hk:=Nat.eq_of_beq_eq_true hk;have hk2:=Nat.eq_of_beq_eq_true hk2;have hk1:=Nat.le_of_ble_eq_true hk1;subst hk2;obtain ⟨cs2,ys,hin,⟨hcs,hyk,hyn⟩,cs,h',hu,⟨hpos,hle⟩,hK⟩:=hq;have hrs:=hc.opnds hg0 hl;simp only [RepVs] at hrs;obtain ⟨u,rr,e1,h1,u2,rr2,e2,h2,h3⟩:=hrs;subst e2 h3;obtain ⟨r2,u2',r1,r3⟩:=oslc_src (P:=P) (m:=m) h2;obtain ⟨news,n1,n3,n4,n5,n6⟩:=srcO_ok (P:=P) hc.cw hin r1 hcs hyk hyn;exact copyC_ok hc hud hk hk1 hu h1 hcal hat e1 hle (by rw [flat_length hyk];exact Nat.mul_le_mul_right _ (by omega)) (by rw [hyn];exact hK) hn (n:=n2) hyn r2 (fun w' hw=>by rw [r3,<- hk];exact n3 w' hw) n4 n6
   ·rename_i b o m c k b2 o2 n2 k2 hl;split at hq<;>try contradiction
    rename_i hk hk2 hk1;have hk:=Nat.eq_of_beq_eq_true hk;have hk2:=Nat.eq_of_beq_eq_true hk2;have hk1:=Nat.le_of_ble_eq_true hk1;subst hk2;obtain ⟨cs2,ys,hin,⟨hcs,hyk,hyn⟩,cs,h',hu,⟨hpos,hle⟩,hK⟩:=hq;have hrs:=hc.opnds hg0 hl;simp only [RepVs] at hrs;obtain ⟨u,rr,e1,h1,u2,rr2,e2,h2,h3⟩:=hrs;subst e2 h3;obtain ⟨r2,u2',r1,r3⟩:=osl_src (P:=P) (m:=m) h2;obtain ⟨news,n1,n3,n4,n5,n6⟩:=srcO_ok (P:=P) hc.cw hin r1 hcs hyk hyn;exact copyC_ok hc hud hk hk1 hu h1 hcal hat e1 hle (by rw [flat_length hyk];exact Nat.mul_le_mul_right _ (by omega)) (by rw [hyn];exact hK) hn (n:=n2) hyn r2 (fun w' hw=>by rw [r3,<- hk];exact n3 w' hw) n4 n6
   rename_i b o m k y _ _ hl;split at hq<;>try contradiction
   rename_i hk hk1;have hk:=Nat.eq_of_beq_eq_true hk;have hk1:=Nat.le_of_ble_eq_true hk1;split at hq<;>try contradiction
   rename_i ys hys;obtain ⟨cs,h',hu,⟨hpos,hle2,hle⟩,hK⟩:=hq;have hrs:=hc.opnds hg0 hl;simp only [RepVs] at hrs;obtain ⟨u,rr,e1,h1,u2,rr2,e2,h2,h3⟩:=hrs;subst e2 h3;obtain ⟨news,n1,n2,n3,n4,n5⟩:=src_ok (P:=P) (c:=⟨g0,live X h,w⟩) hys h2;exact copy_ok hc hud hk hk1 hu h1 hcal hat e1 hle (by omega) hK hn (n:=ys.length) (by omega) n1 (fun w' hw=>by rw [<- hk];exact n2 w' hw) n3 n5
  ·rename_i hcal;split at hq<;>try contradiction
   rename_i t hat;split at hq<;>try contradiction
   rename_i e hud;split at hq<;>try contradiction
   rename_i z hz;split at hq<;>try contradiction
   rename_i b o m k hl;split at hq<;>try contradiction
   rename_i hzk;have hzk:=Nat.eq_of_beq_eq_true hzk;obtain ⟨cs,h',hu,⟨hpos,hle⟩,hK⟩:=hq;obtain ⟨l1,l2,rfl,rfl⟩:=Upd.split hu;have hrs:=hc.opnds hg0 hl;simp only [RepVs] at hrs;obtain ⟨u,rr,e1,h1,e2⟩:=hrs;subst e2;obtain ⟨p,cap,x1,x2,rfl,x3,x4,x5,x6,_⟩:=h1.oslE hpos;simp only at x1;obtain ⟨i,zv,hi,hzv,hzr,hz1⟩:=zeroCs_ok (c:=⟨g0,live X (l1++(b,.vec cs)::l2),w⟩) hz;have hzs:zv.cells.size=k:=by have:=hzr.length;simp at this;omega
   have hrep:=RepVs.repl hzr m;have hrl:(repC m z).length=m*k:=by unfold repC;simp [hzk]
   have hul:(List.replicate m zv.cells.toList).flatten.length=m*k:=by simp [hzs]
   obtain ⟨q,cc,tt,p1,p2,p3,p4,p5,p6⟩:=vec_store (o:=o) hc.cw (by omega) hrep (by
    intro u hu;simp only [List.mem_flatten,List.mem_replicate] at hu;obtain ⟨l,⟨_,rfl⟩,hu⟩:=hu;exact hz1 u (by simpa using hu))
   rw [x1] at p1;cases p1
   refine wp_value (u:=.tuple #[]) (w':=w.setCells p.block (p.off+o) (List.replicate m zv.cells.toList).flatten) ?_ (hn (.tup []) _ g0 _ _ hK p5 (by rw [Rep];exact ⟨#[],rfl,by simp [RepVs]⟩) p6);have h1:cl.args.map a.eval=#[.slice (some ⟨p.block,p.off+o,none⟩) m cap]:=by rw [<- Array.toList_inj];simpa using e1
   have h2:cl.argTypes=#[t]:=by rw [<- Array.toList_inj];simpa using hat
   have hst:=run_storeCells_cells (P:=P) p.block (p.off+o) (List.replicate m zv.cells.toList).flatten 0 w
    (fun j hj=>by
      simp only [Nat.add_zero];rw [cell_of_row w p.block (p.off+o+j) cc tt _ p3];have:p.off+o+j<cc.size:=(by omega);simp [this])
    (fun j hj=>frozen_of_row w p.block _ cc tt p3) (fun v hv=>by
      simp only [List.mem_flatten,List.mem_replicate] at hv;obtain ⟨l,⟨_,rfl⟩,hu⟩:=hv;exact hz1 v (by simpa using hu))
   simp only [Nat.add_zero] at hst;have hzc:(Builtin.zeroCells zv.cells m).toList=(List.replicate m zv.cells.toList).flatten:=made_eq zv.cells (by omega) m;obtain ⟨m',rfl⟩:∃ m',m=m'+1:=⟨m - 1,by omega⟩;have hzr':(zeroValue e).run P w=.ok zv w:=(by simp [zeroValue,typeInfo,hi,hzv]);have hcl:(Builtin.clear_ #[t] ty #[.slice (some ⟨p.block,p.off+o,none⟩) (m'+1) cap]).run P w=.ok (.tuple #[]) (w.setCells p.block (p.off+o) (List.replicate (m'+1) zv.cells.toList).flatten):=(by simp only [Builtin.clear_,List.getElem?_toArray,List.getElem?_cons_zero,Sem.run_bind,run_und hud,Result.andThen_ok,hzr',hzc,hst,Sem.run_pure]);simp [execOp,resolve,hcal,invoke,builtin,h1,h2,hcl]
  exact hq.elim
 all_goals (simp [opL] at hq)
theorem opO_ok {o:Oper} {cl:Call} {K:AV->Heap->Prop} {next:Act->World->Prop} {Q:Exit->Act->World->Prop} (hop:o.op=.call cl)
  (hq:opO P r h K cl) (hc:Conc n X g0 r h a w) (hn:NextL X g0 h w K o.dst a next):o.wp P a w next Q:=by
 have hg0:holdsC a []:=fun e he=>by cases he
 obtain ⟨dst,op,ty,pos,aft,gd⟩:=o;simp only at hop hn;subst hop;unfold opO at hq;split at hq<;>try contradiction
 rename_i hcal;split at hq<;>try contradiction
 rename_i t tx hat;split at hq<;>try contradiction
 rename_i e hud htx;split at hq<;>try contradiction
 rename_i hk1;split at hq<;>try contradiction
 rename_i hbt;split at hq<;>try contradiction
 rename_i z hz;split at hq<;>try contradiction
 rename_i hzl;have hk1:=Nat.le_of_ble_eq_true hk1;have hbt:=Nat.le_of_ble_eq_true hbt;have hzl:=Nat.eq_of_beq_eq_true hzl;split at hq<;>try contradiction
 ·rename_i y hl;split at hq<;>try contradiction
  rename_i ys hys;obtain ⟨⟨hpos,hmax⟩,hK⟩:=hq;have hrs:=hc.opnds hg0 hl;simp only [RepVs] at hrs;obtain ⟨u,rr,e1,h1,u2,rr2,e2,h2,h3⟩:=hrs;subst e2 h3;rw [Rep] at h1;subst h1;have hrun:=append_arrays (P:=P) (a:=a) (w:=w) (o:=⟨dst,.call cl,ty,pos,aft,gd⟩) (b:=#[]) rfl hcal hat e1;obtain ⟨i,zv,hi,hzv,hzr,hz1⟩:=zeroCs_ok (c:=⟨g0,live X h,w⟩) hz;have hisz:i.size=P.cellsOf e:=(by simp [Program.cellsOf,hi]);have hib:i.bytes=P.bytesOf e:=(by simp [Program.bytesOf,hi]);have hzs:zv.cells.size=P.cellsOf e:=by have:=hzr.length;simp at this;omega
  obtain ⟨news,n1,n2,n3,n4,n5⟩:=src_ok (c:=⟨g0,live X h,w⟩) hys h2;have hnl:news.length=ys.length*P.cellsOf e:=by rw [n3.length,flat_length n4]
  have hrn:=run_append_grow' (P:=P) (w:=w) (ty:=ty) (i:=i) (z:=zv) (m:=ys.length) (sLen:=0) (sCap:=0) (base:=none) (olds:=[]) hud htx hi hzv n1 (by rw [hisz];exact n2 w.drew rfl)
   (by simp [Builtin.firstCells]) (by omega) (by omega) (by omega)
  refine wp_value (hrun _ _ hrn) ?_;obtain ⟨c1,s1⟩:=hc.cw.drew;have hcapw:=grownCap_ge w (0+ys.length) 0 e
  obtain ⟨b',g',k1,k2,k3⟩:=c1.newVecZ (l:=ys.flatten) (us:=[]++news) (Z:=Builtin.zeroCells zv.cells (grownCap w (0+ys.length) 0 e - (0+ys.length))) e
   (RepVs.mono (Step.le s1) _ _ (by simpa using n3)) (by simpa using n5)
  refine hn _ _ g' _ _ (hK b') k2 ?_ (s1.trans hc.cw.own k3);rw [Rep];have hcapm:=grownCap_le_maxLen w (0+ys.length) 0 e (by unfold maxLen;unfold AMAX at hmax;omega);refine ⟨_,grownCap w (0+ys.length) 0 e,0,k1,rfl,by rw [Nat.zero_add];rfl,by omega,by unfold LMAX;unfold AMAX at hmax;omega,hk1,?_,fun _=>rfl,by unfold CAPM;unfold maxLen at hcapm;omega⟩;refine ⟨_,_,_,heap_alloc_new w.drew _,?_⟩;simp only [Array.size_append,List.size_toArray,size_zeroCells,hzs,List.length_append,hnl,List.length_nil];have e3:ys.length*P.cellsOf e+(grownCap w (0+ys.length) 0 e - (0+ys.length))*P.cellsOf e=grownCap w (0+ys.length) 0 e*P.cellsOf e:=by rw [<- Nat.add_mul];congr 1;omega
  simp only [Nat.zero_add] at e3 ⊢;omega
 rename_i b off k y hl;split at hq<;>try contradiction
 rename_i hk;have hk:=Nat.eq_of_beq_eq_true hk;split at hq<;>try contradiction
 rename_i ys hys;obtain ⟨⟨⟨cs,hin⟩,hpos,hmax⟩,hK⟩:=hq;have hrs:=hc.opnds hg0 hl;simp only [RepVs] at hrs;obtain ⟨u,rr,e1,h1,u2,rr2,e2,h2,h3⟩:=hrs;subst e2 h3;have hrun:=append_arrays (P:=P) (a:=a) (w:=w) (o:=⟨dst,.call cl,ty,pos,aft,gd⟩) (b:=#[]) rfl hcal hat e1;refine oslc_grow hc.cw hin hud htx hk1 hbt hz hzl hk (.inl rfl) (by omega) (by omega) (src_ok (c:=⟨g0,live X h,w⟩) hys h2) h1 hrun ?_ hn;intro q;have:=hK q;simpa using this
theorem opB_ok {o:Oper} {t:TypeId} {m:Nat} {parts:Array (Nat × Operand)} {K:AV->Heap->Prop} {next:Act->World->Prop} {Q:Exit->Act->World->Prop} (hop:o.op=.buildSlice t m parts)
  (hq:opB P r h K t m parts) (hc:Conc n X g0 r h a w) (hn:NextL X g0 h w K o.dst a next):o.wp P a w next Q:=by
 have hg0:holdsC a []:=fun e he=>by cases he
 obtain ⟨dst,op,ty,pos,aft,gd⟩:=o;simp only at hop hn;subst hop;unfold opB at hq;split at hq<;>try contradiction
 rename_i e hud;split at hq<;>try contradiction
 rename_i l hl;split at hq<;>try contradiction
 rename_i q1 q2 q3;split at hq<;>try contradiction
 rename_i z hz;split at hq<;>try contradiction
 rename_i q4;have q1:=Nat.eq_of_beq_eq_true q1;have q2:=Nat.le_of_ble_eq_true q2;have q3:=Nat.le_of_ble_eq_true q3;have q4:=Nat.eq_of_beq_eq_true q4;obtain ⟨ie,zv,hie,hzv,hzr,hzo⟩:=zeroCs_ok (c:=⟨g0,live X h,w⟩) hz;have hsz:ie.size=P.cellsOf e:=(by simp [Program.cellsOf,hie]);have hzl:zv.cells.size=P.cellsOf e:=by have:=hzr.length;simp at this;omega
 have hzget:∀ u∈(Array.range (m*P.cellsOf e)).map (zv.cells[· % zv.cells.size]!),u.oneCell'=true:=by intro u hu;obtain ⟨j,hj,rfl⟩:=Array.mem_map.1 hu;have hlt:j % zv.cells.size<zv.cells.size:=Nat.mod_lt _ (by omega);rw [getElem!_pos zv.cells _ hlt];exact hzo _ (Array.getElem_mem _)
 by_cases hm:m=0
 ·subst hm;have hl0:l=[]:=List.eq_nil_of_length_eq_zero q1;subst hl0
  have hps:parts.toList=[]:=by
   cases hh:parts.toList with
   | nil=>rfl
   | cons q qs=>
     rw [hh] at hl;obtain ⟨i0,x0⟩:=q;unfold elemsOf at hl
     (repeat' split at hl)<;>simp_all
  have hpe:parts=#[]:=(by simpa using hps);obtain ⟨k,g',k1,k2,k3⟩:=hc.cw.newVec (l:=[]) (us:=#[]) e (by simp [RepVs]) (by simp);refine wp_value (u:=.slice (some ⟨w.heap.size,0,none⟩) 0 0) (w':=w.alloc (.cells #[] e)) ?_ (hn _ _ g' _ _ (hq k) k2 ?_ k3)
  ·have e0:(Array.map (fun _=>(default:Value)) (Array.range 0))=#[]:=(by simp [Array.range]);simp [execOp,Instr.buildSlice,run_und hud,run_sizeT hie,hpe,Instr.fill,newRow,e0]
  rw [Rep];exact ⟨_,k1,rfl,rfl,Nat.le_refl _,by unfold LMAX;omega,by omega,⟨_,_,_,heap_alloc_new w _,by simp⟩,by unfold CAPM;omega⟩
 replace hq:∀ b,K (.osl b 0 m (P.cellsOf e)) ((b,.vec l.flatten)::h):=by
  cases m with
  | zero=>exact absurd rfl hm
  | succ n=>exact hq
 obtain ⟨res,us,e1,e2,e3,e4,e5,e6,e7⟩:=elems_ok hc hg0 hl ((Array.range (m*P.cellsOf e)).map (zv.cells[· % zv.cells.size]!))
  (by
    have:∀ (ps:List (Nat × Operand)) (k:Nat) (l:List (List AV)),elemsOf r [] (P.cellsOf e) k ps=some l->l.length=ps.length:=by
     intro ps;induction ps with
     | nil=>intro k l hh;simp [elemsOf] at hh;subst hh;rfl
     | cons q qs ih=>
       intro k l hh;obtain ⟨i0,x0⟩:=q;unfold elemsOf at hh;split at hh<;>try contradiction
       split at hh<;>try contradiction
       split at hh<;>try contradiction
       split at hh<;>try contradiction
       split at hh<;>try contradiction
       rename_i l' hr;cases hh
       simp [ih _ _ hr]
    have:=this _ _ _ hl;rw [Nat.zero_add,<- this,q1];simp) hzget
 have hml:parts.toList.length=m:=(by omega);have hmpos:0<m*P.cellsOf e:=Nat.mul_pos (by omega) (by omega);have hres:res.toList=us:=by rw [e6];simp only [Nat.zero_mul,List.take_zero,List.nil_append,Nat.zero_add,hml];rw [List.drop_of_length_le (by simp)];simp
 have hrun:=run_buildSlice (P:=P) w t e m (parts.map fun (i,x)=>(i,a.eval x)) res ie zv hud hie hzv (by rw [hsz];omega) (by rw [hsz];omega)
  (by rw [hsz];simpa using e1)
 obtain ⟨k,g',k1,k2,k3⟩:=hc.cw.newVec (l:=l.flatten) (us:=res) e (by rw [hres];exact e4) e7;refine wp_value (u:=.slice (some ⟨w.heap.size,0,none⟩) m m) (w':=w.alloc (.cells res e)) ?_ (hn _ _ g' _ _ (hq k) k2 ?_ k3)
 ·simp [execOp,hrun]
 rw [Rep];have hml64:m<=65536:=Nat.le_trans (Nat.le_mul_of_pos_right m (by omega)) q3;refine ⟨_,m,0,k1,rfl,rfl,Nat.le_refl _,by unfold LMAX;omega,by omega,?_,fun _=>rfl,by unfold CAPM;omega⟩;refine ⟨_,_,_,heap_alloc_new w _,?_⟩;have:=e4.length;have h2:res.size=l.flatten.length:=by rw [<- Array.length_toList,hres];omega
 have h3:=flat_length e3;simp only [Nat.zero_add];rw [h2,h3,q1];omega
theorem opX_ok {own own2:List Nat} {o:Oper} {K:AV->Heap->Prop} {next:Act->World->Prop} {Q:Exit->Act->World->Prop}
  (hq:opX P own own2 o.dst r h K o.op) (hc:Conc n X g0 r h a w) (hn:NextL X g0 h w K o.dst a next):o.wp P a w next Q:=by
 unfold opX at hq;split at hq
 ·rename_i cl d e1 e2;split at hq
  ·exact opO_ok e1 hq hc hn
  rw [<- e1] at hq;exact opL_ok hq hc hn
 ·rename_i t m parts d e1 e2;split at hq
  ·exact opB_ok e1 hq hc hn
  rw [<- e1] at hq;exact opL_ok hq hc hn
 exact opL_ok hq hc hn
end Go.Abs
