/- Small laws for the walks and contracts of functions; each theorem names its conditions. -/
import Derived.Test.YthmcbjcgdfmmaaaGreatN1
import Derived.Laws.OwnMore
import Derived.Carry
import Derived.Laws.IdiomRangeMap
import Derived.Lib.AppendZerosOnto
import Derived.Laws.RangeAny
/-
 The abstract fR,part F: the EL that make or OE own objects.
-/
namespace Go.Abs
open Go
variable {P:Program} {n:Nat} {X:Nat->Prop} {g0:Gh} {r:aC} {h:af} {a:Act} {w:World}
def Gh.set (g:Gh) (k:Nat) (p:Option Addr) (b:Option (Nat × Nat)):Gh where
 pl:=fun k'=>if k'=k then p else g.pl k'
 ow:=fun b'=>match b with
  | some (bb,s)=>if b'=bb then some (k,s) else g.ow b'
  | none=>g.ow b'
theorem CW.fresh (hc:CW X g0 h w):∃ k,¬ X k/\k ∉ keys h/\g0.pl k=none/\∀ b s,g0.ow b≠some (k,s):=by
 obtain ⟨N,hN⟩:=hc.bound;refine ⟨N,fun hx=>?_,fun hk=>?_,?_,fun b s hb=>?_⟩
 ·exact absurd (hN N (.inl hx)) (Nat.lt_irrefl _)
 ·exact absurd (hN N (.inr (.inl hk))) (Nat.lt_irrefl _)
 ·cases hp:g0.pl N with
  | none=>rfl
  | some p=>exact absurd (hN N (.inr (.inr (.inl (by simp [hp]))))) (Nat.lt_irrefl _)
 exact absurd (hN N (.inr (.inr (.inr ⟨b,s,hb⟩)))) (Nat.lt_irrefl _)
theorem CW.newAt (hc:CW X g0 h w) (o:Obj) (s:Nat):∃ k,k ∉ keys h/\¬ X k /\
  (∀ ob,Step X g0 h w (g0.set k (some ⟨w.heap.size,s,none⟩) (some (w.heap.size,s))) ((k,ob)::h) (w.alloc o)) /\
  ∀ ob,oC ⟨g0.set k (some ⟨w.heap.size,s,none⟩) (some (w.heap.size,s)),live X ((k,ob)::h),w.alloc o⟩ k ob ->
   CW X (g0.set k (some ⟨w.heap.size,s,none⟩) (some (w.heap.size,s))) ((k,ob)::h) (w.alloc o):=by
 obtain ⟨k,f1,f2,f3,f4⟩:=hc.fresh
 have ax:∀ ob,Step X g0 h w (g0.set k (some ⟨w.heap.size,s,none⟩) (some (w.heap.size,s))) ((k,ob)::h) (w.alloc o):=by
  intro ob;refine ⟨rfl,⟨rfl,Nat.le_refl _⟩,rfl,by simp,?_,?_,?_,?_,?_,?_,?_⟩
  ·intro k' p hp;simp only [Gh.set];split
   ·rename_i e;subst e;rw [f3] at hp;cases hp
   exact hp
  ·intro b k' s' hb hx;simp only [Gh.set];split
   ·rename_i e;subst e;exact absurd (hc.own _ _ _ hb) (Nat.lt_irrefl _)
   exact hb
  ·intro b k' s' hb hx;simp only [Gh.set] at hb;split at hb
   ·cases hb;exact absurd hx f1
   exact hb
  ·intro k' hx hp;simp only [Gh.set];split
   ·rename_i e;subst e;exact absurd hx f1
   exact hp
  ·intro b hb pE;refine ⟨Ai w o hb,fun k' s' gX bn=>?_⟩;simp only [Gh.set] at gX;split at gX
   ·omega
   simp [keys] at bn;rcases bn with rfl|⟨x,hx⟩
   ·exact f4 _ _ gX
   exact pE k' s' gX (by simp [keys];exact ⟨x,hx⟩)
  ·intro b k' s' hb bn cc t f bJ;exact ⟨cc,(Ai w o (hc.own _ _ _ hb)).trans bJ,rfl,fun _ _=>rfl⟩
  intro b k' s' hb bn Vy yc uk _;simp only [Gh.set] at uk;split at uk
  ·rename_i e;subst e;exact absurd (hc.own _ _ _ hb) (Nat.lt_irrefl _)
  rw [hb] at uk;cases uk;exact Nat.le_refl _
 refine ⟨k,f2,f1,ax,fun ob jt=>⟨?_,?_,?_,?_,?_⟩⟩
 ·intro b k' s' hb;simp only [Gh.set] at hb;split at hb
  ·rename_i e;subst e;simp
  have:=hc.own _ _ _ hb;simp;omega
 ·obtain ⟨N,hN⟩:=hc.bound;refine ⟨max N (k+1),fun k' bn=>?_⟩;by_cases e:k'=k
  ·subst e;omega
  have:k'<N:=by
   rcases bn with hx|bn|hp|⟨b,s',hb⟩
   ·exact hN _ (.inl hx)
   ·simp [keys,e] at bn;obtain ⟨x,hx⟩:=bn;exact hN _ (.inr (.inl (by simp [keys];exact ⟨x,hx⟩)))
   ·simp only [Gh.set,e,if_false] at hp;exact hN _ (.inr (.inr (.inl hp)))
   simp only [Gh.set] at hb;split at hb
   ·cases hb;exact absurd rfl e
   exact hN _ (.inr (.inr (.inr ⟨b,s',hb⟩)))
  omega
 ·simp only [keys,List.map_cons,List.nodup_cons];exact ⟨f2,hc.nodup⟩
 ·intro k' bn;simp [keys] at bn;rcases bn with rfl|⟨x,hx⟩
  ·exact f1
  exact hc.sep k' (by simp [keys];exact ⟨x,hx⟩)
 intro k' o' hm;rcases List.mem_cons.1 hm with e|hm
 ·cases e;exact jt
 have bn:k'∈keys h:=by simp [keys];exact ⟨o',hm⟩
 have aM:k'≠k:=fun e=>f2 (e ▸ bn);refine oC.my (c:=⟨g0,live X h,w⟩) (Step.le (ax ob)) (hc.obj k' o' hm) ?_ ?_
 ·intro p hp ⟨s',ho⟩;have aP:=hc.own _ _ _ ho;refine ⟨Ai w o aP,?_⟩;simp only [Gh.set];rw [if_neg (by omega)]
 intro hp;simp only [Gh.set,aM,if_false];exact hp
theorem CQ {g:G} {K:AV->Prop} {op:Op} (hq:bH P r g h K op):∃ v,K v:=by
 have sW:∀ {k:IntKind} {m:Int} {K:AV->Prop},arith g k m K->∃ v,K v:=by intro k m K hh;unfold arith at hh;cases k<;>first|exact ⟨_,hh.2⟩|exact ⟨_,hh⟩
 have xa:∀ {t:TypeId} {cs:List AV} {K:AV->Prop},gv P t cs K->∃ v,K v:=by
  intro t cs K hh;unfold gv at hh
  (repeat' split at hh)<;>first|exact ⟨_,hh⟩|exact hh.elim
 unfold bH at hq;split at hq;all_goals (repeat' split at hq)
 all_goals first
  | exact hq.elim
  | exact ⟨_,hq⟩
  | exact xa hq
  | exact sW hq
  | (obtain ⟨cs,l,_,_,hq⟩:=hq;exact xa hq)
  | (obtain ⟨j,y,_,hq⟩:=hq;exact ⟨_,hq⟩)
  | (obtain ⟨es,v,f,_,_,hq⟩:=hq;exact ⟨_,hq⟩)
  | (obtain ⟨j,l,_,_,hq⟩:=hq;exact ⟨_,hq⟩)
  | exact ⟨_,hq.2⟩
  | (obtain ⟨j,_,hq⟩:=hq;exact ⟨_,hq⟩)
  | (unfold tO at hq;simp only [pj] at hq;(repeat' split at hq)<;>first|exact hq.elim|exact ⟨_,hq⟩|(split at hq<;>first|exact hq.elim|exact ⟨_,hq.2⟩)|exact ⟨_,hq.2⟩|exact sW hq.2|exact sW hq.2.2|exact ⟨_,hq.2.2⟩)
  | (unfold tQ at hq;(repeat' split at hq)<;>first|exact hq.elim|exact ⟨_,hq⟩)
  | (unfold po at hq;(repeat' split at hq)<;>first|exact hq.elim|exact ⟨_,hq.2⟩)
  | (unfold uR at hq;(repeat' split at hq)<;>first|exact hq.elim|(obtain ⟨ns,_,hq⟩:=hq;exact ⟨_,hq⟩))
theorem cP.split {b b':Nat} {o o':Ob}:∀ {h h':af},cP b o b' o' h h'->∃ l1 l2,h=l1++(b,o)::l2/\h'=l1++(b',o')::l2
 | _,_,.here l=>⟨[],l,rfl,rfl⟩
 | _,_,.there (x:=x) u=>by obtain ⟨l1,l2,rfl,rfl⟩:=cP.split u;exact ⟨x::l1,l2,rfl,rfl⟩
theorem bj.split {b:Nat} {o:Ob}:∀ {h h':af},bj b o h h'->∃ l1 l2,h=l1++(b,o)::l2/\h'=l1++l2
 | _,_,.here l=>⟨[],l,rfl,rfl⟩
 | _,_,.there (x:=x) u=>by obtain ⟨l1,l2,rfl,rfl⟩:=bj.split u;exact ⟨x::l1,l2,rfl,rfl⟩
theorem um (l1 l2:af) (b:Nat) (o:Ob):keys (l1++(b,o)::l2)=keys l1++b::keys l2:=by simp [keys]
theorem iZ (l1 l2:af) (b:Nat) (o:Ob) (k:Nat):k∈keys (l1++(b,o)::l2)↔k=b\/k∈keys (l1++l2):=by rw [um];simp only [keys,List.map_append,List.mem_append,List.mem_cons];exact or_left_comm
theorem CW.replace {l1 l2:af} {b b':Nat} {o o':Ob} (hc:CW X g0 (l1++(b,o)::l2) w) {g':Gh} {w':World}
  (ax:Step X g0 (l1++(b,o)::l2) w g' (l1++(b',o')::l2) w')
  (Jp:∀ aT k s,g'.ow aT=some (k,s)->aT<w'.heap.size)
  (gX:b'=b\/(¬ X b'/\b' ∉ keys (l1++(b,o)::l2)))
  (AB:∀ k,g'.pl k≠none->k=b'\/g0.pl k≠none) (jt:∀ aT s k,g'.ow aT=some (k,s)->k=b'\/∃ aT s,g0.ow aT=some (k,s))
  (Vz:∀ aT k s,g0.ow aT=some (k,s)->k∈keys (l1++l2)->w'.heap[aT]?=w.heap[aT]?/\g'.ow aT=g0.ow aT)
  (cJ:oC ⟨g',live X (l1++(b',o')::l2),w'⟩ b' o'):CW X g' (l1++(b',o')::l2) w':=by
 have ew:=hc.nodup;rw [um] at ew;have sX:=iZ l1 l2 b' o';have FE:=iZ l1 l2 b o
 have mH:b ∉ keys (l1++l2):=by
  have:=ew;simp only [List.nodup_append,List.nodup_cons] at this;intro hm;simp only [keys,List.map_append,List.mem_append] at hm;rcases hm with hm|hm
  ·exact this.2.2 b hm b (by simp) rfl
  exact this.2.1.1 hm
 have Jq:b' ∉ keys (l1++l2):=by
  rcases gX with rfl|⟨_,gX⟩
  ·exact mH
  intro hm;exact gX ((FE b').2 (.inr hm))
 refine ⟨Jp,?_,?_,?_,?_⟩
 ·obtain ⟨N,hN⟩:=hc.bound;refine ⟨max N (b'+1),fun k hk=>?_⟩;by_cases e:k=b'
  ·omega
  have:k<N:=by
   rcases hk with hx|hk|hp|⟨aT,s,iG⟩
   ·exact hN _ (.inl hx)
   ·exact hN _ (.inr (.inl ((FE k).2 (.inr (((sX k).1 hk).resolve_left e)))))
   ·exact hN _ (.inr (.inr (.inl ((AB k hp).resolve_left e))))
   exact hN _ (.inr (.inr (.inr ((jt aT s k iG).resolve_left e))))
  omega
 ·rw [um];have h1:=ew;simp only [List.nodup_append,List.nodup_cons] at h1 ⊢;have Aj:b' ∉ keys l1:=fun hm=>Jq (by simp [keys] at hm ⊢;exact .inl hm);have BO:b' ∉ keys l2:=fun hm=>Jq (by simp [keys] at hm ⊢;exact .inr hm);refine ⟨h1.1,⟨BO,h1.2.1.2⟩,fun x hx y hy=>?_⟩;rcases List.mem_cons.1 hy with rfl|hy
  ·intro e;subst e;exact Aj hx
  exact h1.2.2 x hx y (by simp [hy])
 ·intro k hk;rcases (sX k).1 hk with rfl|hk
  ·rcases gX with rfl|⟨gX,_⟩
   ·exact hc.sep _ ((FE _).2 (.inl rfl))
   exact gX
  exact hc.sep k ((FE k).2 (.inr hk))
 intro k ok hm;have yU:(k,ok)=(b',o')\/(k,ok)∈l1++l2:=by simp only [List.mem_append,List.mem_cons] at hm ⊢;exact or_left_comm.1 hm
 rcases yU with e|yU
 ·cases e;exact cJ
 have hk:k∈keys (l1++l2):=by simp only [keys,List.mem_map];exact ⟨_,yU,rfl⟩
 have cH:(k,ok)∈l1++(b,o)::l2:=by simp only [List.mem_append,List.mem_cons] at yU ⊢;exact yU.elim .inl (fun h=>.inr (.inr h))
 refine oC.my (c:=⟨g0,live X (l1++(b,o)::l2),w⟩) (Step.le ax) (hc.obj k ok cH) (fun p hp ⟨s,ho⟩=>Vz _ _ _ ho hk) (fun hp=>?_);by_cases e:k=b'
 ·exact absurd (e ▸ hk) Jq
 cases hq:g'.pl k with
 | none=>rfl
 | some p=>exact absurd hp ((AB k (by simp [hq])).resolve_left e)
theorem CR (b:Nat):∀ (vs:List Value) (o:Nat) (w:World) (cc:Array Value) (t:TypeId) (f:Nat × Nat),w.heap[b]?=some (.cells cc t f)->o+vs.length<=cc.size ->
  ∃ eG,(w.setCells b o vs).heap[b]?=some (.cells eG t f)/\eG.size=cc.size/\(∀ j,j<o\/o+vs.length<=j->eG[j]?=cc[j]?)/\(∀ j (hj:j<vs.length),eG[o+j]?=some vs[j]) /\
   (∀ b',b'≠b->(w.setCells b o vs).heap[b']?=w.heap[b']?)/\(w.setCells b o vs).heap.size=w.heap.size/\(w.setCells b o vs).os=w.os/\((w.setCells b o vs).tape=w.tape/\w.drawn<=(w.setCells b o vs).drawn) /\
   (w.setCells b o vs).output=w.output
 | [],o,w,cc,t,f,h,_=>⟨cc,h,rfl,fun _ _=>rfl,fun j hj=>by simp at hj,fun _ _=>rfl,rfl,rfl,⟨rfl,Nat.le_refl _⟩,rfl⟩
 | v::vs,o,w,cc,t,f,h,hle=>by
   simp only [List.length_cons] at hle;have h1:(w.setCell ⟨b,o,none⟩ v).heap[b]?=some (.cells (cc.setIfInBounds o v) t f):=by simp only [World.setCell,Array.getElem?_modify,if_true,h];rfl
   obtain ⟨eG,e1,e2,e3,e4,e5,e6,e7,e8,e9⟩:=CR b vs (o+1) (w.setCell ⟨b,o,none⟩ v) _ t f h1 (by simp;omega);refine ⟨eG,e1,by simpa using e2,fun j hj=>?_,fun j hj=>?_,fun b' gX=>?_,by simpa [World.setCells] using e6,e7,e8,e9⟩
   ·rw [e3 j (by simp only [List.length_cons] at hj;omega),Array.getElem?_setIfInBounds_ne (by simp only [List.length_cons] at hj;omega)]
   ·cases j with
    | zero=>
      rw [e3 (o+0) (by omega)];simp [Array.getElem?_setIfInBounds,show o<cc.size from by omega]
    | succ j=>
      have:=e4 j (by simpa using hj);rw [show o+(j+1)=o+1+j from by omega];simpa using this
   show ((w.setCell ⟨b,o,none⟩ v).setCells b (o+1) vs).heap[b']?=_;rw [e5 b' gX];exact heap_setCell_other w _ b' v gX
theorem OF {t:TypeId} {b o:Nat} {u:Value} {cc:Array Value} {ty:TypeId} (hs:u.cells.size=P.cellsOf t) (hi:0<P.cellsOf t) (hb:w.heap[b]?=some (.cells cc ty (0,0))) (hle:o+u.cells.size<=cc.size)
  (h1:∀ x∈u.cells,x.oneCell'=true):(Instr.storeAt t (.pointer (some ⟨b,o,none⟩)) u).run P w=.ok () (w.setCells b o u.cells.toList):=by
 have bw:∃ i,P.info? t=some i:=by
  cases bw:P.info? t with
  | none=>simp [Program.cellsOf,bw] at hi
  | some i=>exact ⟨i,rfl⟩
 obtain ⟨i,bw⟩:=bw
 have ax:=run_storeCells_cells (P:=P) b o u.cells.toList 0 w
  (fun j hj=>by
    simp only [Nat.add_zero];rw [cell_of_row w b (o+j) cc ty _ hb];have:o+j<cc.size:=by simp at hj;omega
    simp [this])
  (fun j hj=>frozen_of_row w b _ cc ty hb) (fun v hv=>h1 v (by simpa using hv))
 simp only [Nat.add_zero] at ax;simp [Instr.storeAt,Instr.sureAddr,storeVar,px bw,hs,ax]
theorem CW.sY {l1 l2:af} {b:Nat} {o:Ob} (hc:CW X g0 (l1++(b,o)::l2) w):b ∉ keys (l1++l2):=by
 have:=hc.nodup;rw [um] at this;simp only [List.nodup_append,List.nodup_cons] at this;intro hm;simp only [keys,List.map_append,List.mem_append] at hm;rcases hm with hm|hm
 ·exact this.2.2 b hm b (by simp) rfl
 exact this.2.1.1 hm
theorem VA (cs:List AV) (o:Nat) (l:List AV) (hle:o+l.length<=cs.length) (i:Nat) :
  (dn cs o l)[i]?=if o<=i/\i<o+l.length then l[i - o]? else cs[i]?:=by
 unfold dn;by_cases h1:i<o
 ·rw [if_neg (by omega),List.append_assoc,List.getElem?_append_left (by simp;omega),List.getElem?_take_of_lt h1]
 by_cases h2:i<o+l.length
 ·rw [if_pos ⟨by omega,h2⟩,List.append_assoc,List.getElem?_append_right (by simp;omega),List.getElem?_append_left (by simp;omega)];congr 1;simp;omega
 rw [if_neg (by omega),List.getElem?_append_right (by simp;omega),List.getElem?_drop];congr 1;simp;omega
theorem ID (cs:List AV) (o:Nat) (l:List AV) (hle:o+l.length<=cs.length):(dn cs o l).length=cs.length:=by unfold dn;simp;omega
theorem FF {l1 l2:af} {b:Nat} {cs l:List AV} {o:Nat} {us:List Value} (hc:CW X g0 (l1++(b,.vec cs)::l2) w) (hle:o+l.length<=cs.length)
  (bd:au ⟨g0,live X (l1++(b,.vec cs)::l2),w⟩ l us) (ho:∀ u∈us,u.oneCell'=true) :
  ∃ p cc t,g0.pl b=some p/\p.spot=none/\w.heap[p.block]?=some (.cells cc t (0,0))/\p.off+o+us.length<=cc.size /\
   CW X g0 (l1++(b,.vec (dn cs o l))::l2) (w.setCells p.block (p.off+o) us) /\
   Step X g0 (l1++(b,.vec cs)::l2) w g0 (l1++(b,.vec (dn cs o l))::l2) (w.setCells p.block (p.off+o) us):=by
 have jt:=hc.obj b (.vec cs) (by simp);obtain ⟨p,cc,t,h1,h2,h3,h4,h5,h6⟩:=jt;simp only at h1 h3 h4;have hlen:=bd.length;have iE:p.off+o+us.length<=cc.size:=(by omega);obtain ⟨eG,e1,e2,e3,e4,e5,e6,e7,e8,e9⟩:=CR p.block us (p.off+o) w cc t (0,0) h4 iE;have iG:b∈keys (l1++(b,.vec cs)::l2):=by rw [iZ];exact .inl rfl
 have ax:Step X g0 (l1++(b,.vec cs)::l2) w g0 (l1++(b,.vec (dn cs o l))::l2) (w.setCells p.block (p.off+o) us):=by
  refine ⟨e7,e8,e9,by omega,fun _ _ e=>e,fun _ _ _ e _=>e,fun _ _ _ e _=>e,fun _ _ e=>e,?_,?_,?_⟩
  ·intro aT hb hn;have aM:aT≠p.block:=fun e=>hn b 0 (e ▸ h3) iG;refine ⟨e5 aT aM,fun k s hk hm=>hn k s hk ?_⟩;rw [iZ] at hm ⊢;exact hm
  ·intro aT k s hk hm dd tt ff eR;by_cases e:aT=p.block
   ·subst e;rw [h3] at hk;cases hk
    rw [h4] at eR;cases eR
    exact ⟨eG,e1,e2,fun o ho=>by omega⟩
   exact ⟨dd,(e5 aT e).trans eR,rfl,fun _ _=>rfl⟩
  intro aT k s hk _ k' s' bn _;rw [hk] at bn;cases bn;exact Nat.le_refl _
 refine ⟨p,cc,t,h1,h2,h4,iE,?_,ax⟩;refine hc.replace ax (fun aT k s hk=>by have:=hc.own _ _ _ hk;omega) (.inl rfl) (fun k hk=>.inr hk) (fun aT s k hk=>.inr ⟨aT,s,hk⟩) ?_ ?_
 ·intro aT k s hk hm
  have aM:aT≠p.block:=by
   intro e;rw [e,h3] at hk;cases hk
   exact hc.sY hm
  exact ⟨e5 aT aM,rfl⟩
 refine ⟨p,eG,t,h1,h2,h3,e1,by rw [ID _ _ _ hle];omega,?_⟩;intro i x hx;rw [VA _ _ _ hle] at hx;split at hx
 ·rename_i hi;obtain ⟨u,hu,hr⟩:=bd.get _ _ hx;have aP:i - o<us.length:=(by omega);refine ⟨u,?_,ho u (List.mem_of_getElem? hu),ae.mono (Step.le ax) _ _ hr⟩;have:=e4 (i - o) aP;rw [show p.off+o+(i - o)=p.off+i from by omega] at this;rw [this,<- hu,List.getElem?_eq_getElem aP]
 rename_i hi;obtain ⟨u,hu,bF,hr⟩:=h6 i x hx;exact ⟨u,by rw [e3 _ (by omega)];exact hu,bF,ae.mono (Step.le ax) _ _ hr⟩
end Go.Abs
/-
 The abstract fR,part G: append,make,and all EL that make or OE own objects.
-/
namespace Go.Abs
open Go
variable {P:Program} {n:Nat} {X:Nat->Prop} {g0:Gh} {r:aC} {h:af} {a:Act} {w:World}
theorem OG {tx:TypeId} (h:sB P tx=true):∃ d,P.underlying tx=some d/\((∃ e,d=.slice e)\/d=.string):=by
 unfold sB at h;cases hu:P.underlying tx with
 | none=>simp [hu] at h
 | some d=>cases d<;>simp [hu] at h<;>simp
theorem AG {t tx ty e:TypeId} {i:TypeInfo} (ht:P.underlying t=some (.slice e)) (eM:sB P tx=true) (hi:P.info? e=some i)
  {base:Option Addr} {gR mb m:Nat} {ux:Value} {news:List Value}
  (hl:∀ w',(Builtin.lenOf ux).run P w'=.ok m w') (hf:(Builtin.firstCells i.size m ux).run P w=.ok news.toArray w) (jI:gR+m<=mb)
  {w':World} (ax:∀ a,base=some a->(storeCells (a.add (gR*i.size)) news).run P w=.ok () w') (hn:base=none->w'=w) :
  (Builtin.append_ #[t,tx] ty #[.slice base gR mb,ux]).run P w=.ok (.slice base (gR+m) mb) w':=by
 obtain ⟨d,hd,db⟩:=OG eM;have hz:((match (d:TypeDesc) with|.int _=>true|_=>false):Bool)=false:=by rcases db with ⟨e,rfl⟩|rfl<;>rfl
 cases base with
 | none=>
   have:=hn rfl;subst this;rcases db with ⟨e',rfl⟩|rfl<;>simp [Builtin.append_,run_underlying ht,run_underlying hd,sizeOf,typeInfo,hi,hl,jI,hf]
 | some b=>
   have:=ax b rfl;rcases db with ⟨e',rfl⟩|rfl<;>simp [Builtin.append_,run_underlying ht,run_underlying hd,sizeOf,typeInfo,hi,hl,jI,hf,this]
theorem yV {t tx ty e:TypeId} {i:TypeInfo} {z:Value} (ht:P.underlying t=some (.slice e)) (eM:sB P tx=true) (hi:P.info? e=some i) (hz:i.zero=some z)
  {base:Option Addr} {gR mb m:Nat} {ux:Value} {du news:List Value}
  (hl:∀ w',(Builtin.lenOf ux).run P w'=.ok m w') (hf:(Builtin.firstCells i.size m ux).run P w.drew=.ok news.toArray w.drew)
  (ho:(Builtin.firstCells i.size gR (.slice base gR mb)).run P w.drew=.ok du.toArray w.drew) (hg:mb<gR+m) (dX:gR+m<=aN) (hb:i.bytes<=4096) :
  (Builtin.append_ #[t,tx] ty #[.slice base gR mb,ux]).run P w =
    .ok (.slice (some ⟨w.heap.size,0,none⟩) (gR+m) (grownCap w (gR+m) mb e))
     (w.drew.alloc (.cells ((du++news).toArray++Builtin.zeroCells z.cells (grownCap w (gR+m) mb e - (gR+m))) e)):=by
 obtain ⟨d,hd,db⟩:=OG eM;have e0:∀ Z:Array Value,du.toArray++(news.toArray++Z)=(du++news).toArray++Z:=by intro Z;rw [<- Array.append_assoc];simp
 unfold aN at dX;have hn:¬ (gR+m<=mb):=(by omega);have VB:¬ (9223372036854775807<((gR:Int)+(m:Int))):=(by omega);have iE:Builtin.nextslicecap (gR+m) mb*i.bytes<=281474976710656:=by have h1:Builtin.nextslicecap (gR+m) mb<=2*(gR+m):=nextslicecap_le hg;exact Nat.le_trans (Nat.mul_le_mul h1 hb) (by omega)
 have VC:¬ (281474976710656<Builtin.nextslicecap (gR+m) mb*i.bytes):=(by omega);have AH:(Builtin.firstCells i.size m ux).run P { w with drawn:=w.drawn+1 }=.ok news.toArray { w with drawn:=w.drawn+1 }:=hf;have bF:(Builtin.firstCells i.size gR (.slice base gR mb)).run P { w with drawn:=w.drawn+1 }=.ok du.toArray { w with drawn:=w.drawn+1 }:=ho
 rcases db with ⟨e',rfl⟩|rfl <;>
  (simp [Builtin.append_,run_underlying ht,run_underlying hd,sizeOf,typeInfo,zeroValue,hi,hz,hl,hn,VB,VC,Question.forced,hf,ho,newRow,grownCap];rw [e0])
theorem xd {k:Nat} {y:AV} {ys:List (List AV)} {u:Value} {c:Cx} (h:rq k y=some ys) (hu:ae c y u) :
  ∃ news:List Value,(∀ w',(Builtin.lenOf u).run P w'=.ok ys.length w')/\(∀ w':World,w'.heap=c.w.heap->(Builtin.firstCells k ys.length u).run P w'=.ok news.toArray w') /\
   au c ys.flatten news/\(∀ x∈ys,x.length=k)/\(∀ v∈news,v.oneCell'=true):=by
 unfold rq at h;split at h
 ·rename_i k' q xs;split at h<;>try contradiction
  rename_i hk;have hk:=Nat.eq_of_beq_eq_true hk;cases h
  subst hk;simp only [ae] at hu;obtain ⟨base,cap,rfl,e1,e2,e3,e4,e5,e6,e7⟩:=hu;cases base with
  | none=>
    have hx:ys=[]:=List.eq_nil_of_length_eq_zero (by have:=e4 rfl;omega);subst hx;exact ⟨[],fun w'=>by simp [Builtin.lenOf],fun w' _=>by simp [Builtin.firstCells],by simp [au],by simp,by simp⟩
  | some ad=>
    obtain ⟨f1,f2⟩:=cj.toFlat (e6 ad rfl);obtain ⟨us,g1,g2,g3⟩:=bC.load f2;refine ⟨us,fun w'=>by simp [Builtin.lenOf],fun w' hw=>?_,g3,f1,fun v hv=>?_⟩
    ·refine run_firstCells_some w' k' ys.length ad ys.length cap us (by rw [g1,lx f1]) (fun j v hj=>?_);have:=(g2 j v hj).1;have hs:ad.spot=none:=e5 ad rfl (fun e=>by subst e;simp at g1;rw [g1] at hj;simp at hj)
     have eQ:ad.add j=⟨ad.block,ad.off+j,none⟩:=by
      unfold Addr.add;split
      ·rename_i h0;rw [h0];cases ad;simp_all
      rfl
     rw [eQ];simpa [World.cell?,hw] using this
    obtain ⟨j,hj⟩:=List.mem_iff_getElem?.1 hv;exact (g2 j v hj).2
 ·cases h
  simp only [ae] at hu;subst hu;exact ⟨[],fun w'=>by simp [Builtin.lenOf],fun w' _=>by simp [Builtin.firstCells],by simp [au],by simp,by simp⟩
 ·split at h<;>try contradiction
  cases h
  simp only [ae] at hu;obtain ⟨a,cap,rfl,_⟩:=hu;exact ⟨[],fun w'=>by simp [Builtin.lenOf],fun w' _=>run_firstCells_some w' k 0 a 0 cap [] (by simp) (by simp),by simp [au],by simp,by simp⟩
 ·rename_i s;split at h<;>try contradiction
  rename_i hk;have hk:=Nat.eq_of_beq_eq_true hk;cases h
  subst hk;rw [ae] at hu;obtain ⟨b,rfl,rfl,hl⟩:=hu;refine ⟨b.data.toList.map fun x=>.int .u8 (x.toNat:Int),fun w'=>?_,fun w' _=>?_,?_,by simp,?_⟩
  ·simp [Builtin.lenOf]
  ·simp [Builtin.firstCells];try exact Array.ext' (by simp)
  ·have key:∀ l:List UInt8,au c (l.map fun b=>[AV.int .u8 (b.toNat:Int)]).flatten (l.map fun x=>.int .u8 (x.toNat:Int)):=by
    intro l;induction l with
    | nil=>simp [au]
    | cons x l ih=>
      simp only [List.map_cons,List.flatten_cons,List.singleton_append,au];refine ⟨_,_,rfl,?_,ih⟩;rw [ae];have:=x.toNat_lt;exact ⟨rfl,by constructor<;>simp [IntKind.min,IntKind.max,IntKind.signed,IntKind.bits]<;>omega⟩
   exact key _
  intro v hv;simp at hv;obtain ⟨x,_,rfl⟩:=hv;rfl
 cases h
def mO (X:Nat->Prop) (g0:Gh) (h:af) (w:World) (K:AV->af->Prop) (d:Option Tmp) (a:Act) (next:Act->World->Prop):Prop:=
 ∀ v h' g' u w',K v h'->CW X g' h' w'->ae ⟨g',live X h',w'⟩ v u->Step X g0 h w g' h' w'->next (a.put d u) w'
theorem bC.in {c:Cx} {us:List Value} {b:Nat}:∀ {cs:List AV} {l:List Value} {o:Nat},au c cs l ->
  (∀ j u,l[j]?=some u->c.w.cell? ⟨b,o+j,none⟩=some u/\u.oneCell'=true/\c.fr b (o+j))->bC c cs b o
 | [],l,o,_,_=>by simp [bC]
 | x::cs,l,o,h,hl=>by
   simp only [au] at h;obtain ⟨u,r,rfl,h1,h2⟩:=h;simp only [bC];obtain ⟨e1,e2,e3⟩:=hl 0 u (by simp)
   exact ⟨⟨u,by simpa using e1,e2,by simpa using e3,h1⟩,bC.in (us:=us) h2 (fun j v hv=>by
    have:=hl (j+1) v (by simpa using hv);rw [show o+1+j=o+(j+1) from by omega];exact this)⟩
theorem cj.append {c:Cx} {k:Nat}:∀ {xs ys:List (List AV)} {b o:Nat},cj c k xs b o->cj c k ys b (o+xs.length*k)->cj c k (xs++ys) b o
 | [],ys,b,o,_,h=>by simpa using h
 | x::xs,ys,b,o,h,h'=>by simp only [List.cons_append,cj] at h ⊢;refine ⟨h.1,cj.append h.2 ?_⟩;simp only [List.length_cons,Nat.add_mul,Nat.one_mul] at h';rw [show o+k+xs.length*k=o+(xs.length*k+k) from by omega];exact h'
theorem OH {K:AV->af->Prop} {d:Option Tmp} {next:Act->World->Prop} (hc:CW X g0 h w) {xs:List (List AV)} {us:List Value} {k:Nat} {Z:Array Value} {e:TypeId} {cap:Nat}
  (bd:au ⟨g0,live X h,w⟩ xs.flatten us) (hk:∀ x∈xs,x.length=k) (h1:∀ v∈us,v.oneCell'=true) (iJ:0<k) (hlen:xs.length<=aN) (HX:xs.length<=cap)
  (iB:us.length+Z.size=cap*k) (hq:∀ q,K (.sl k (some q) xs) ((q,.tok)::h)) (hn:mO X g0 h w K d a next) :
  next (a.put d (.slice (some ⟨w.heap.size,0,none⟩) xs.length cap)) (w.drew.alloc (.cells (us.toArray++Z) e)):=by
 obtain ⟨c1,s1⟩:=hc.drew;obtain ⟨q,f1,f2,st,mk⟩:=c1.newAt (.cells (us.toArray++Z) e) (xs.length*k);have mc:us.length=xs.length*k:=by rw [bd.length,lx hk]
 have dH:=mk .tok (by
  intro p hp;simp only [Gh.set,if_true] at hp;cases hp
  exact ⟨rfl,by simp [Gh.set],us.toArray++Z,e,heap_alloc_new w.drew _⟩)
 have ax:=s1.trans hc.own (st .tok);refine hn _ _ _ _ _ (hq q) dH ?_ ax;simp only [ae];have VD:Cx.Le ⟨g0,live X h,w⟩ _:=Step.le ax;refine ⟨_,cap,rfl,HX,by unfold aq;unfold aN at hlen;omega,iJ,by simp,by simp,?_,?_⟩
 ·intro ad ha;simp at ha;subst ha;refine cj.flat hk (bC.in (us:=us) (l:=us) (au.mono VD _ _ bd) ?_);intro j u hu;have hj:j<us.length:=(List.getElem?_eq_some_iff.1 hu).1;refine ⟨?_,h1 u (List.mem_of_getElem? hu),?_⟩
  ·show (w.drew.alloc _).cell? ⟨w.drew.heap.size,0+j,none⟩=_;rw [World.cell?_alloc_new,Nat.zero_add,Array.getElem?_append_left (by simpa using hj)];simpa using hu
  intro kk s hs _;have ly:some (q,xs.length*k)=some (kk,s):=by have h2:=hs;simp only [Gh.set] at h2;rwa [if_pos (show w.heap.size=w.drew.heap.size from rfl)] at h2
  cases ly
  show 0+j<xs.length*k;rw [<- mc];omega
 intro q' VE;cases VE
 right;refine ⟨_,rfl,rfl,by simp [Gh.set],?_⟩;refine ⟨_,_,_,heap_alloc_new w.drew _,?_⟩;simp only [Array.size_append,List.size_toArray];omega
end Go.Abs
/-
 The abstract fR,part H: all EL that make or OE own objects.
-/
namespace Go.Abs
open Go
variable {P:Program} {n:Nat} {X:Nat->Prop} {g0:Gh} {r:aC} {h:af} {a:Act} {w:World}
theorem CW.sub {h':af} (hc:CW X g0 h w) (gA:∀ k o,(k,o)∈h'->(k,o)∈h) (ew:(keys h').Nodup):CW X g0 h' w/\Step X g0 h w g0 h' w:=by
 have hk:∀ k,k∈keys h'->k∈keys h:=by intro k hk;simp only [keys,List.mem_map] at hk ⊢;obtain ⟨⟨k',o⟩,hm,rfl⟩:=hk;exact ⟨_,gA _ _ hm,rfl⟩
 have ax:Step X g0 h w g0 h' w:=
  ⟨rfl,⟨rfl,Nat.le_refl _⟩,rfl,Nat.le_refl _,fun _ _ e=>e,fun _ _ _ e _=>e,fun _ _ _ e _=>e,fun _ _ e=>e,fun _ _ e=>⟨rfl,fun k s hb hm=>e k s hb (hk k hm)⟩,
    fun _ _ _ _ _ cc _ _ e=>⟨cc,e,rfl,fun _ _=>rfl⟩,fun _ _ _ e _ _ _ e' _=>by rw [e] at e';cases e';exact Nat.le_refl _⟩
 refine ⟨⟨hc.own,?_,ew,fun k hm=>hc.sep k (hk k hm),fun k o hm=>?_⟩,ax⟩
 ·obtain ⟨N,hN⟩:=hc.bound;refine ⟨N,fun k hm=>hN k ?_⟩;rcases hm with hx|hm|hm
  ·exact .inl hx
  ·exact .inr (.inl (hk k hm))
  exact .inr (.inr hm)
 exact oC.my (c:=⟨g0,live X h,w⟩) (Step.le ax) (hc.obj k o (gA k o hm)) (fun p _ _=>⟨rfl,rfl⟩) (fun e=>e)
theorem CW.FG (hc:CW X g0 h w):∃ k,CW X g0 ((k,.tok)::h) w/\Step X g0 h w g0 ((k,.tok)::h) w:=by
 obtain ⟨k,f1,f2,f3,f4⟩:=hc.fresh
 have ax:Step X g0 h w g0 ((k,.tok)::h) w:=by
  refine ⟨rfl,⟨rfl,Nat.le_refl _⟩,rfl,Nat.le_refl _,fun _ _ e=>e,fun _ _ _ e _=>e,fun _ _ _ e _=>e,fun _ _ e=>e,fun b hb e=>⟨rfl,fun k' s gX hm=>?_⟩,
   fun _ _ _ _ _ cc _ _ e=>⟨cc,e,rfl,fun _ _=>rfl⟩,fun _ _ _ e _ _ _ e' _=>by rw [e] at e';cases e';exact Nat.le_refl _⟩
  simp [keys] at hm;rcases hm with rfl|⟨x,hx⟩
  ·exact f4 _ _ gX
  exact e k' s gX (by simp [keys];exact ⟨x,hx⟩)
 refine ⟨k,⟨hc.own,?_,?_,?_,?_⟩,ax⟩
 ·obtain ⟨N,hN⟩:=hc.bound;refine ⟨max N (k+1),fun k' bn=>?_⟩;by_cases e:k'=k
  ·subst e;omega
  have:k'<N:=by
   rcases bn with hx|bn|hp
   ·exact hN _ (.inl hx)
   ·simp [keys,e] at bn;obtain ⟨x,hx⟩:=bn;exact hN _ (.inr (.inl (by simp [keys];exact ⟨x,hx⟩)))
   exact hN _ (.inr (.inr hp))
  omega
 ·simp only [keys,List.map_cons,List.nodup_cons];exact ⟨f2,hc.nodup⟩
 ·intro k' bn;simp [keys] at bn;rcases bn with rfl|⟨x,hx⟩
  ·exact f1
  exact hc.sep k' (by simp [keys];exact ⟨x,hx⟩)
 intro k' o' hm;rcases List.mem_cons.1 hm with e|hm
 ·cases e
  intro p hp;simp only at hp;rw [f3] at hp;cases hp
 exact oC.my (c:=⟨g0,live X h,w⟩) (Step.le ax) (hc.obj k' o' hm) (fun p _ _=>⟨rfl,rfl⟩) (fun e=>e)
theorem CW.CS (hc:CW X g0 h w) {l:List AV} {us:Array Value} (t:TypeId) (hr:au ⟨g0,live X h,w⟩ l us.toList) (h1:∀ u∈us,u.oneCell'=true) :
  ∃ k g',g'.pl k=some ⟨w.heap.size,0,none⟩/\CW X g' ((k,.vec l)::h) (w.alloc (.cells us t))/\Step X g0 h w g' ((k,.vec l)::h) (w.alloc (.cells us t)):=by
 obtain ⟨k,f1,f2,st,mk⟩:=hc.newAt (.cells us t) 0;refine ⟨k,_,by simp [Gh.set],mk (.vec l) ?_,st (.vec l)⟩;have hl:=hr.length;refine ⟨⟨w.heap.size,0,none⟩,us,t,by simp [Gh.set],rfl,by simp [Gh.set],heap_alloc_new w _,by simp at hl ⊢;omega,?_⟩;intro i x hx;obtain ⟨u,hu,cJ⟩:=hr.get i x hx;have dK:us[i]?=some u:=(by simpa using hu);exact ⟨u,by simpa using dK,h1 u (Array.mem_of_getElem? dK),ae.mono (Step.le (st (.vec l))) _ _ cJ⟩
theorem FH (z:Array Value) (hz:0<z.size):∀ m:Nat,(madeCells z (m*z.size)).toList=(List.replicate m z.toList).flatten
 | 0=>by simp [madeCells]
 | m+1=>by
   have ih:=FH z hz m;simp only [madeCells,Array.toList_map,Array.toList_range] at ih ⊢;rw [Nat.add_mul,Nat.one_mul,Nat.add_comm,List.range_add,List.map_append,List.map_map,List.replicate_succ,List.flatten_cons,<- ih];congr 1
   ·apply List.ext_getElem
    ·simp
    intro i h1 h2;simp at h1;simp [Nat.mod_eq_of_lt h1];rw [getElem!_pos z i h1]
   apply List.map_congr_left;intro j _;simp
theorem au.FI {c:Cx} {z:List AV} {us:List Value} (hz:au c z us):∀ m:Nat,au c (gS m z) (List.replicate m us).flatten
 | 0=>by simp [gS,au]
 | m+1=>by have:=au.FI hz m;simp only [gS] at this ⊢;rw [List.replicate_succ,List.replicate_succ,List.flatten_cons,List.flatten_cons];exact au.append hz this
theorem VF {l1 l2:af} {q:Nat} {k m cap len:Nat} {ad:Addr} {news:List Value} (hc:CW X g0 (l1++(q,.tok)::l2) w)
  (hp:g0.pl q=some ⟨ad.block,ad.off+len*k,none⟩) (hb:World.qd w ad.block (ad.off+cap*k)) (hn:news.length=m*k) (jI:len+m<=cap)
  (h1:∀ v∈news,v.oneCell'=true) :
  (storeCells (⟨ad.block,ad.off+len*k,none⟩:Addr) news).run P w=.ok () (w.setCells ad.block (ad.off+len*k) news) /\
  ∃ q' g',q' ∉ keys (l1++(q,.tok)::l2)/\g'.pl q'=some ⟨ad.block,ad.off+(len+m)*k,none⟩/\g'.ow ad.block=some (q',ad.off+(len+m)*k) /\
   CW X g' (l1++(q',.tok)::l2) (w.setCells ad.block (ad.off+len*k) news) /\
   Step X g0 (l1++(q,.tok)::l2) w g' (l1++(q',.tok)::l2) (w.setCells ad.block (ad.off+len*k) news) /\
   World.qd (w.setCells ad.block (ad.off+len*k) news) ad.block (ad.off+cap*k) /\
   ∀ j u,news[j]?=some u->(w.setCells ad.block (ad.off+len*k) news).cell? ⟨ad.block,ad.off+len*k+j,none⟩=some u:=by
 have jt:=hc.obj q .tok (by simp);obtain ⟨_,yW,cc,t,bJ⟩:=jt _ hp;simp only at yW bJ;obtain ⟨sw,t2,f2,OI,iB⟩:=hb;rw [bJ] at OI;obtain ⟨rfl,rfl,rfl⟩:cc=sw/\t=t2/\(0,0)=f2:=by injection OI with e;injection e with e1 e2 e3;exact ⟨e1,e2,e3⟩
 have hle:ad.off+len*k+news.length<=cc.size:=by have:=Nat.mul_le_mul_right k jI;rw [Nat.add_mul] at this;omega
 obtain ⟨eG,e1,e2,e3,e4,e5,e6,e7,e8,e9⟩:=CR ad.block news (ad.off+len*k) w cc t (0,0) bJ hle;have Jr:q∈keys (l1++(q,.tok)::l2):=by rw [iZ];exact .inl rfl
 constructor
 ·have ax:=run_storeCells_cells (P:=P) ad.block (ad.off+len*k) news 0 w
   (fun j hj=>by
     simp only [Nat.add_zero];rw [cell_of_row w ad.block _ cc t _ bJ];have:ad.off+len*k+j<cc.size:=(by omega);simp [this])
   (fun j hj=>frozen_of_row w ad.block _ cc t bJ) h1
  simpa only [Nat.add_zero] using ax
 obtain ⟨q',f1,f2,f3,f4⟩:=hc.fresh;have Q5:q'≠q:=fun e=>f2 (e ▸ Jr)
 have ax:Step X g0 (l1++(q,.tok)::l2) w (g0.set q' (some ⟨ad.block,ad.off+(len+m)*k,none⟩) (some (ad.block,ad.off+(len+m)*k))) (l1++(q',.tok)::l2)
   (w.setCells ad.block (ad.off+len*k) news):=by
  refine ⟨e7,e8,e9,by omega,?_,?_,?_,?_,?_,?_,?_⟩
  ·intro k' p bn;simp only [Gh.set];split
   ·rename_i e;subst e;rw [f3] at bn;cases bn
   exact bn
  ·intro b k' s hb hx;simp only [Gh.set];split
   ·rename_i e;subst e;rw [yW] at hb;cases hb;exact absurd hx (hc.sep _ Jr)
   exact hb
  ·intro b k' s hb hx;simp only [Gh.set] at hb;split at hb
   ·cases hb;exact absurd hx f1
   exact hb
  ·intro k' hx aX;simp only [Gh.set];split
   ·rename_i e;subst e;exact absurd hx f1
   exact aX
  ·intro b hb pE;have aM:b≠ad.block:=fun e=>pE q _ (e ▸ yW) Jr;refine ⟨e5 b aM,fun k' s gX hm=>?_⟩;simp only [Gh.set,if_neg aM] at gX;rw [iZ] at hm;rcases hm with rfl|hm
   ·exact f4 _ _ gX
   exact pE k' s gX ((iZ _ _ _ _ _).2 (.inr hm))
  ·intro b k' s hb hm dd tt ff eR;by_cases e:b=ad.block
   ·subst e;rw [yW] at hb;cases hb
    rw [bJ] at eR;cases eR
    exact ⟨eG,e1,e2,fun o ho=>e3 o (.inl ho)⟩
   exact ⟨dd,(e5 b e).trans eR,rfl,fun _ _=>rfl⟩
  intro b k' s hb hm Vy yc uk _;by_cases e:b=ad.block
  ·subst e;rw [yW] at hb;cases hb
   simp only [Gh.set,if_true] at uk;cases uk
   rw [Nat.add_mul];omega
  simp only [Gh.set,if_neg e] at uk;rw [hb] at uk;cases uk;exact Nat.le_refl _
 refine ⟨q',_,f2,by simp [Gh.set],by simp [Gh.set],?_,ax,⟨eG,t,_,e1,by omega⟩,?_⟩
 ·refine hc.replace ax ?_ (.inr ⟨f1,f2⟩) ?_ ?_ ?_ ?_
  ·intro aT k' s hb;simp only [Gh.set] at hb;split at hb
   ·rename_i e;subst e;have:=hc.own _ _ _ yW;omega
   have:=hc.own _ _ _ hb;omega
  ·intro k' bn;by_cases e:k'=q'
   ·exact .inl e
   simp only [Gh.set,if_neg e] at bn;exact .inr bn
  ·intro aT s k' hb;simp only [Gh.set] at hb;split at hb
   ·cases hb;exact .inl rfl
   exact .inr ⟨_,_,hb⟩
  ·intro aT k' s hb hm
   have aM:aT≠ad.block:=by
    intro e;rw [e,yW] at hb;cases hb
    exact hc.sY hm
   exact ⟨e5 aT aM,by simp only [Gh.set,if_neg aM]⟩
  intro p aX;simp only [Gh.set,if_true] at aX;cases aX
  exact ⟨rfl,by simp [Gh.set],eG,t,e1⟩
 intro j u hu;have hj:=(List.getElem?_eq_some_iff.1 hu).1;rw [cell_of_row _ ad.block _ eG t _ e1,e4 j hj,<- hu,List.getElem?_eq_getElem hj]
theorem mO.of {K K':AV->af->Prop} {d:Option Tmp} {next:Act->World->Prop} (hn:mO X g0 h w K d a next)
  (hk:∀ v h',K' v h'->∃ qi,K v qi/\(∀ k o,(k,o)∈qi->(k,o)∈h')/\((keys h').Nodup->(keys qi).Nodup)) (hc:CW X g0 h w):mO X g0 h w K' d a next:=by
 intro v h' g' u w' hK c1 c2 c3;obtain ⟨qi,k1,k2,k3⟩:=hk v h' hK;obtain ⟨d1,d2⟩:=c1.sub k2 (k3 c1.nodup);exact hn v qi g' u w' k1 d1 (ae.mono (Step.le d2) _ _ c2) (c3.trans hc.own d2)
theorem OJ {l1 l2:af} {q k:Nat} {xs ys:List (List AV)} {u uy:Value} {t tx ty e:TypeId} {K:AV->af->Prop} {next:Act->World->Prop} {o:Oper}
  {Q:Exit->Act->World->Prop} (hc:CW X g0 (l1++(q,.tok)::l2) w) (ht:P.underlying t=some (.slice e)) (eM:sB P tx=true) (iJ:1<=P.cellsOf e) (jN:P.bytesOf e<=4096)
  {z:List AV} (hz:iQ P e=some z) (iD:z.length=P.cellsOf e) (hk:k=P.cellsOf e) (uo:∃ news:List Value,(∀ w',(Builtin.lenOf uy).run P w'=.ok ys.length w')/\(∀ w':World,w'.heap=w.heap->(Builtin.firstCells k ys.length uy).run P w'=.ok news.toArray w') /\
   au ⟨g0,live X (l1++(q,.tok)::l2),w⟩ ys.flatten news/\(∀ x∈ys,x.length=k)/\(∀ v∈news,v.oneCell'=true)) (dX:(xs++ys).length<=aN)
  (hx:ae ⟨g0,live X (l1++(q,.tok)::l2),w⟩ (.sl k (some q) xs) u)
  (bu:∀ s w',(Builtin.append_ #[t,tx] ty #[u,uy]).run P w=.ok s w'->(execOp a.eval o).run P w=.ok (.value s) w')
  (hK:∀ q',∃ h',cP q .tok q' .tok (l1++(q,.tok)::l2) h'/\K (.sl k (some q') (xs++ys)) h') (hn:mO X g0 (l1++(q,.tok)::l2) w K o.dst a next):o.wp P a w next Q:=by
 obtain ⟨i,zv,hi,fT,eZ,eC⟩:=nr (c:=⟨g0,live X (l1++(q,.tok)::l2),w⟩) hz;have fV:i.size=P.cellsOf e:=(by simp [Program.cellsOf,hi]);have uq:i.bytes=P.bytesOf e:=(by simp [Program.bytesOf,hi]);have me:zv.cells.size=P.cellsOf e:=by have:=eZ.length;simp at this;omega
 obtain ⟨news,n1,n2,n3,n4,n5⟩:=uo;have gx:news.length=ys.length*k:=(by rw [n3.length,lx n4]);have lJ:=hx;simp only [ae] at hx;obtain ⟨base,cap,rfl,x1,x2,x3,x4,x5,x6,x7⟩:=hx
 have Js:∀ q' h',cP q .tok q' .tok (l1++(q,.tok)::l2) h'->h'=l1++(q',.tok)::l2:=by
  intro q' h' hu;obtain ⟨m1,m2,e1,e2⟩:=cP.split hu
  -- keys OK Q6 from one Q7
  have ew:=hc.nodup
  have key:∀ (l1 m1 l2 m2:af),(keys (l1++(q,.tok)::l2)).Nodup->l1++(q,Ob.tok)::l2=m1++(q,.tok)::m2->l1=m1/\l2=m2:=by
   intro l1;induction l1 with
   | nil=>
     intro m1 l2 m2 ew he;cases m1 with
     | nil=>simp at he;exact ⟨rfl,he⟩
     | cons x m1=>
       simp at he;obtain ⟨rfl,rfl⟩:=he;simp [keys] at ew
   | cons x l1 ih=>
     intro m1 l2 m2 ew he;cases m1 with
     | nil=>
       simp at he;obtain ⟨rfl,rfl⟩:=he;simp [keys] at ew
     | cons y m1=>
       simp at he;obtain ⟨rfl,he⟩:=he;have VG:(keys (l1++(q,.tok)::l2)).Nodup:=by simp only [keys,List.cons_append,List.map_cons,List.nodup_cons] at ew ⊢;exact ew.2
       obtain ⟨rfl,rfl⟩:=ih m1 l2 m2 VG he;exact ⟨rfl,rfl⟩
  obtain ⟨rfl,rfl⟩:=key _ _ _ _ ew e1;exact e2
 by_cases jI:xs.length+ys.length<=cap
 ·by_cases hm:ys=[]
  · -- nothing
   subst hm;have gB:news=[]:=List.eq_nil_of_length_eq_zero (by rw [gx];simp);subst gB;obtain ⟨h',hu,hK⟩:=hK q;have:=Js _ _ hu;subst this;refine ep (w':=w) (bu _ _ (AG (w':=w) (m:=0) (i:=i) ht eM hi (by simpa using n1) (by simpa [fV,hk] using n2 w rfl) (by omega) ?_ (fun _=>rfl))) ?_
   ·intro ad _;simp [storeCells]
   refine hn _ _ g0 _ w hK hc ?_ (Step.refl _ _ _ _);simpa using lJ
  have eb:0<ys.length:=List.length_pos_iff.2 hm;rcases x7 q rfl with x7|⟨ad,ha,hs,hp,FJ⟩
  ·omega
  subst ha;obtain ⟨st,q',g',f1,f2,f3,f4,f5,f6,f7⟩:=VF (P:=P) (m:=ys.length) hc hp FJ gx jI n5;obtain ⟨h',hu,hK⟩:=hK q';have:=Js _ _ hu;subst this
  have eQ:∀ j,ad.add j=⟨ad.block,ad.off+j,none⟩:=by
   intro j;unfold Addr.add;split
   ·rename_i h0;rw [h0];cases ad;simp_all
   rfl
  refine ep (bu _ _ (AG (m:=ys.length) (i:=i) ht eM hi n1 (by rw [fV,<- hk];exact n2 w rfl) jI
   (w':=w.setCells ad.block (ad.off+xs.length*k) news) ?_ (fun e=>by cases e))) ?_
  ·intro Jt he;cases he
   rw [eQ,fV,<- hk];exact st
  refine hn _ _ g' _ _ hK f4 ?_ f5;simp only [ae];refine ⟨some ad,cap,by simp,by simpa using jI,by unfold aq;unfold aN at dX;omega,x3,by simp,fun a' mz _=>by cases mz;exact hs,?_,?_⟩
  ·intro a' mz;cases mz
   refine cj.append (cj.mono (Step.le f5) _ _ _ _ (x6 ad rfl)) ?_;refine cj.flat n4 (bC.in (us:=news) (l:=news) (au.mono (Step.le f5) _ _ n3) ?_);intro j v hj;have gb:=(List.getElem?_eq_some_iff.1 hj).1;refine ⟨f7 j v hj,n5 v (List.mem_of_getElem? hj),?_⟩;intro kk s ly _;simp only at ly;rw [f3] at ly;cases ly
   rw [Nat.add_mul];omega
  intro q2 vq;cases vq
  exact .inr ⟨ad,rfl,hs,by simp only [f2,List.length_append],f6⟩
 -- a new row
 obtain ⟨du,o1,o2,o3,o4,o5⟩:=xd (k:=k) (y:=.sl k (some q) xs) (ys:=xs) (c:=⟨g0,live X (l1++(q,.tok)::l2),w⟩) (by simp [rq,Nat.beq_refl]) lJ;have hg:cap<xs.length+ys.length:=by omega
 have lE:=yV (P:=P) (w:=w) (ty:=ty) (i:=i) (z:=zv) (m:=ys.length) ht eM hi fT n1 (by rw [fV,<- hk];exact n2 w.drew rfl) (base:=base)
  (by rw [fV,<- hk];exact o2 w.drew rfl) hg (by simpa using dX) (by omega)
 refine ep (bu _ _ lE) ?_;have ur:=grownCap_ge w (xs.length+ys.length) cap e
 have dZ:=OH (K:=fun v h'=>∃ q',v=.sl k (some q') (xs++ys)/\h'=(q',.tok)::(l1++(q,.tok)::l2)) (xs:=xs++ys) (us:=du++news) (k:=k) (e:=e)
  (cap:=grownCap w (xs.length+ys.length) cap e) (Z:=Builtin.zeroCells zv.cells (grownCap w (xs.length+ys.length) cap e - (xs.length+ys.length)))
  (d:=o.dst) (a:=a) (next:=next) hc (by simpa using au.append o3 n3) (by intro x hx;rcases List.mem_append.1 hx with h|h;exact o4 x h;exact n4 x h)
  (by intro v hv;rcases List.mem_append.1 hv with h|h;exact o5 v h;exact n5 v h) x3 dX (by simpa using ur) ?_ (fun q'=>⟨q',rfl,rfl⟩) (hn.of ?_ hc)
 ·simpa using dZ
 ·rw [size_zeroCells,me,<- hk,List.length_append,gx,o3.length,lx o4,<- Nat.add_mul,<- Nat.add_mul];congr 1;omega
 rintro v h' ⟨q',rfl,rfl⟩;obtain ⟨h',hu,hK⟩:=hK q';have:=Js _ _ hu;subst this;refine ⟨_,hK,?_,?_⟩
 ·intro k' o' hm;simp only [List.mem_append,List.mem_cons] at hm ⊢;rcases hm with h|h|h
  ·exact .inr (.inl h)
  ·exact .inl h
  exact .inr (.inr (.inr h))
 intro ew;rw [um];simp only [keys,List.map_cons,List.map_append,List.nodup_cons,List.nodup_append,List.mem_append,List.mem_cons,not_or] at ew ⊢;obtain ⟨⟨a1,a2,a3⟩,b1,⟨b2,b3⟩,b4⟩:=ew;refine ⟨b1,⟨a3,b3⟩,fun x hx y hy=>?_⟩;rcases hy with rfl|hy
 ·rintro rfl;exact a1 hx
 exact b4 x hx y (.inr hy)
theorem VH {l1 l2:af} {q k:Nat} {xs ys:List (List AV)} {y:AV} {u uy:Value} {t tx ty e:TypeId} {K:AV->af->Prop} {next:Act->World->Prop} {o:Oper}
  {Q:Exit->Act->World->Prop} (hc:CW X g0 (l1++(q,.tok)::l2) w) (ht:P.underlying t=some (.slice e)) (eM:sB P tx=true) (iJ:1<=P.cellsOf e) (jN:P.bytesOf e<=4096)
  {z:List AV} (hz:iQ P e=some z) (iD:z.length=P.cellsOf e) (hk:k=P.cellsOf e) (kV:rq k y=some ys) (dX:(xs++ys).length<=aN)
  (hx:ae ⟨g0,live X (l1++(q,.tok)::l2),w⟩ (.sl k (some q) xs) u) (hy:ae ⟨g0,live X (l1++(q,.tok)::l2),w⟩ y uy)
  (bu:∀ s w',(Builtin.append_ #[t,tx] ty #[u,uy]).run P w=.ok s w'->(execOp a.eval o).run P w=.ok (.value s) w')
  (hK:∀ q',∃ h',cP q .tok q' .tok (l1++(q,.tok)::l2) h'/\K (.sl k (some q') (xs++ys)) h') (hn:mO X g0 (l1++(q,.tok)::l2) w K o.dst a next):o.wp P a w next Q:=by
 exact OJ hc ht eM iJ jN hz iD hk (xd kV hy) dX hx bu hK hn
end Go.Abs
/-
 The abstract fR,part I0: Q8 MC an own map.
-/
namespace Go.Abs
open Go
def Ju (w1 w:World):Prop:=w1.Alike w/\(w1.tape=w.tape/\w.drawn<=w1.drawn)
variable {P:Program} {n:Nat} {X:Nat->Prop} {g0:Gh} {r:aC} {h:af} {a:Act} {w:World}
theorem eP.len {c:Cx}:∀ {es:List (AV × AV)} {aj:List MapEntry},eP c es aj->es.length=aj.length
 | [],_,h=>by rw [h];rfl
 | x::es,_,h=>by obtain ⟨e,r,rfl,_,_,h⟩:=h;simp [eP.len h]
theorem eP.get {c:Cx}:∀ {es:List (AV × AV)} {aj:List MapEntry} {i:Nat} {x:AV × AV},eP c es aj->es[i]?=some x->∃ e,aj[i]?=some e/\ae c x.1 e.key/\ae c x.2 e.val
 | [],_,i,x,_,hx=>by cases hx
 | y::es,_,0,x,h,hx=>by obtain ⟨e,r,rfl,a1,a2,h⟩:=h;simp at hx;subst hx;exact ⟨e,rfl,a1,a2⟩
 | y::es,_,i+1,x,h,hx=>by obtain ⟨e,r,rfl,a1,a2,h⟩:=h;obtain ⟨e',h1,h2⟩:=eP.get h (by simpa using hx);exact ⟨e',by simpa using h1,h2⟩
theorem VI {l1 l2:af} {b:Nat} {es:List (AV × AV)} (hc:CW X g0 (l1++(b,.map es)::l2) w):∃ p bs cl aj,bs.length=es.length/\bs.Nodup/\g0.pl b=some p/\w.heap[p.block]?=some (.map aj cl) /\
  CW X g0 (l1++(b,.uP es bs cl)::l2) w/\Step X g0 (l1++(b,.map es)::l2) w g0 (l1++(b,.uP es bs cl)::l2) w:=by
 obtain ⟨p,cl,aj,o1,o2,o3,o4,o5,o6⟩:=hc.obj b (.map es) (by simp)
 have ax:Step X g0 (l1++(b,.map es)::l2) w g0 (l1++(b,.uP es (aj.toList.map (·.born)) cl)::l2) w:=by
  refine ⟨rfl,⟨rfl,Nat.le_refl _⟩,rfl,Nat.le_refl _,fun _ _ e=>e,fun _ _ _ e _=>e,fun _ _ _ e _=>e,fun _ _ e=>e,?_,?_,?_⟩
  ·intro aT aP hn;refine ⟨rfl,fun k s hk hm=>hn k s hk ?_⟩;rw [iZ] at hm ⊢;exact hm
  ·intro aT k s hk hm dd tt ff eR;exact ⟨dd,eR,rfl,fun _ _=>rfl⟩
  intro aT k s hk _ k' s' bn _;rw [hk] at bn;cases bn;exact Nat.le_refl _
 refine ⟨p,_,cl,aj,by simp [eP.len o4],o6,o1,o3,?_,ax⟩;refine hc.replace ax hc.own (.inl rfl) (fun k hk=>.inr hk) (fun aT s k hk=>.inr ⟨aT,s,hk⟩) (fun aT k s hk hm=>⟨rfl,rfl⟩) ?_;exact ⟨p,aj,o1,o2,o3,eP.mono (Step.le ax) o4,o5,o6,rfl⟩
theorem VJ {l1 l2:af} {b m cl:Nat} {seen CT:List Nat} {p pm:Addr} {sa yX:Array Nat} {w1:World} (hc:CW X g0 (l1++(b,.iter m cl seen)::l2) w) (ha:Ju w1 w) (hp:g0.pl b=some p) (ho:g0.ow p.block=some (b,0))
  (hb:w.heap[p.block]?=some (.mapIter (some pm.block) cl sa cl)) (eS:g0.pl m=some pm) (hs:yX.toList=CT) :
  CW X g0 (l1++(b,.iter m cl CT)::l2) { w1 with heap:=w1.heap.setIfInBounds p.block (.mapIter (some pm.block) cl yX cl) } /\
  Step X g0 (l1++(b,.iter m cl seen)::l2) w g0 (l1++(b,.iter m cl CT)::l2) { w1 with heap:=w1.heap.setIfInBounds p.block (.mapIter (some pm.block) cl yX cl) }:=by
 obtain ⟨⟨a1,a2,a3⟩,a4⟩:=ha;have aP:p.block<w.heap.size:=(Array.getElem?_eq_some_iff.1 hb).1;have sZ:∀ aT,aT≠p.block->(w1.heap.setIfInBounds p.block (.mapIter (some pm.block) cl yX cl))[aT]?=w.heap[aT]?:=fun aT aM=>by rw [Array.getElem?_setIfInBounds_ne (Ne.symm aM),a1]
 have iG:b∈keys (l1++(b,.iter m cl seen)::l2):=by rw [iZ];exact .inl rfl
 have ax:Step X g0 (l1++(b,.iter m cl seen)::l2) w g0 (l1++(b,.iter m cl CT)::l2) { w1 with heap:=w1.heap.setIfInBounds p.block (.mapIter (some pm.block) cl yX cl) }:=by
  refine ⟨a2,a4,a3,by simp [a1],fun _ _ e=>e,fun _ _ _ e _=>e,fun _ _ _ e _=>e,fun _ _ e=>e,?_,?_,?_⟩
  ·intro aT aP hn;have aM:aT≠p.block:=fun e=>hn b 0 (e ▸ ho) iG;refine ⟨sZ aT aM,fun k s hk hm=>hn k s hk ?_⟩;rw [iZ] at hm ⊢;exact hm
  ·intro aT k s hk hm dd tt ff eR;by_cases e:aT=p.block
   ·subst e;rw [hb] at eR;cases eR
   exact ⟨dd,(sZ aT e).trans eR,rfl,fun _ _=>rfl⟩
  intro aT k s hk _ k' s' bn _;rw [hk] at bn;cases bn;exact Nat.le_refl _
 refine ⟨?_,ax⟩;refine hc.replace ax (fun aT k s hk=>by have:=hc.own _ _ _ hk;simpa [a1] using this) (.inl rfl) (fun k hk=>.inr hk) (fun aT s k hk=>.inr ⟨aT,s,hk⟩) ?_ ?_
 ·intro aT k s hk hm
  have aM:aT≠p.block:=by
   intro e;rw [e,ho] at hk;cases hk
   exact hc.sY hm
  exact ⟨sZ aT aM,rfl⟩
 exact ⟨p,pm,yX,hp,ho,by simp [aP,a1],eS,hs⟩
theorem run_next_any (ty:TypeId) (bi bm since:Nat) (seen:Array Nat) (es:Array MapEntry) (hi:w.heap[bi]?=some (.mapIter (some bm) since seen since)) (hb:w.heap[bm]?=some (.map es since)) (hold:∀ x∈es.toList,x.born<since) :
  ((leftOf es seen).size=0/\(Instr.next (.pointer (some ⟨bi,0,none⟩)) false ty).run P w=.ok (.tuple #[.bool false]) w) \/
  ∃ e∈(leftOf es seen).toList,∃ w1:World,Ju w1 w/\(Instr.next (.pointer (some ⟨bi,0,none⟩)) false ty).run P w=.ok (.tuple #[.bool true,e.key,e.val]) { w1 with heap:=w1.heap.setIfInBounds bi (.mapIter (some bm) since (seen.push e.born) since) }:=by
 simp only [Instr.next,getObj,Sem.run_bind,Sem.run,hi,hb,Result.andThen,next_test_false seen es since since hold (Nat.le_refl _),Bool.false_eq_true,if_false];unfold leftOf;have gW:∀ x∈(Array.filter (fun e=>!seen.contains e.born) es).toList,x.born<since:=fun x hx=>hold x (by simp at hx ⊢;exact hx.1);generalize Array.filter (fun e=>!seen.contains e.born) es=L at gW ⊢;have e1:L.filter (fun x=>decide (x.born<since))=L:=Array.filter_eq_self.2 (fun x hx=>by simpa using gW x (by simpa using hx));have e2:L.filter (fun x=>decide (x.born>=since))=#[]:=by rw [Array.filter_eq_empty_iff];intro x hx;have:=gW x (by simpa using hx);simp;omega
 simp only [e1,e2,Array.append_empty];by_cases h0:L.size=0
 ·left;have:L=#[]:=Array.eq_empty_of_size_eq_zero h0;subst this;refine ⟨rfl,?_⟩;simp [choose,Sem.run,Question.forced]
 right;have aM:L.isEmpty=false:=(by simp [Array.isEmpty,h0]);simp only [aM,Bool.false_eq_true,if_false,Array.empty_append,Array.size_map]
 have VK:∃ (j:Nat) (w1:World),j<L.size/\Ju w1 w/\(choose (Question.mapNext L.size)).run P w=.ok j w1:=by
  by_cases hf:L.size<=1
  ·exact ⟨0,w,by omega,⟨⟨rfl,rfl,rfl⟩,rfl,Nat.le_refl _⟩,by simp [choose,Sem.run,Question.forced,hf]⟩
  exact ⟨_,w.drew,Nat.mod_lt _ (by omega),⟨⟨rfl,rfl,rfl⟩,rfl,Nat.le_succ _⟩,by
   simp only [choose,Sem.run,Question.forced,decide_eq_true_eq,hf,if_false,Question.cut];rfl⟩
 obtain ⟨j,w1,hj,il,bu⟩:=VK;refine ⟨L[j],by simp,w1,il,?_⟩;have ju:(setObj bi (.mapIter (some bm) since (seen.push L[j].born) since)).run P w1=.ok () { w1 with heap:=w1.heap.setIfInBounds bi (.mapIter (some bm) since (seen.push L[j].born) since) }:=(by simp [setObj,Sem.run,il.1.1,hi]);simp only [bu,Array.getElem?_map,Array.getElem?_eq_getElem hj,Option.map_some,Sem.run_bind,ju,Result.andThen];rfl
theorem VL (bi bm since c0:Nat) (seen:Array Nat) (es:Array MapEntry) (e:MapEntry) (hi:w.heap[bi]?=some (.mapIter (some bm) since seen c0)) (hb:w.heap[bm]?=some (.map es c0)) (hs:seen.back?=some e.born) (he:e∈es.toList) (hn:(es.toList.map (·.born)).Nodup) :
  (Instr.entry (.pointer (some ⟨bi,0,none⟩))).run P w=.ok (.tuple #[e.key,e.val]) w:=by
 have hf:es.find? (·.born == e.born)=some e:=by rw [<- Array.find?_toList];exact find_born e es.toList hn he
 simp only [Instr.entry,getObj,Sem.run_bind,Sem.run,hi,hb,hs,Result.andThen,bne_self_eq_false,Bool.false_eq_true,if_false,hf];rfl
end Go.Abs
/-
 The abstract fR,part I1: own rows that grow.
-/
namespace Go.Abs
open Go
variable {P:Program} {n:Nat} {X:Nat->Prop} {g0:Gh} {r:aC} {h:af} {a:Act} {w:World}
theorem Jv:∀ {l1 l2 m1 m2:af} {b:Nat} {o o':Ob},(keys (l1++(b,o)::l2)).Nodup->l1++(b,o)::l2=m1++(b,o')::m2->l1=m1/\l2=m2
 | [],l2,[],m2,b,o,o',hn,e=>by simp at e;exact ⟨rfl,e.2⟩
 | [],l2,y::m1,m2,b,o,o',hn,e=>by simp at e;obtain ⟨rfl,rfl⟩:=e;simp [keys] at hn
 | x::l1,l2,[],m2,b,o,o',hn,e=>by simp at e;obtain ⟨rfl,rfl⟩:=e;simp [keys] at hn
 | x::l1,l2,y::m1,m2,b,o,o',hn,e=>by
   simp at e;obtain ⟨rfl,e⟩:=e;have jm:(keys (l1++(b,o)::l2)).Nodup:=by have:keys (x::l1++(b,o)::l2)=x.1::keys (l1++(b,o)::l2):=rfl;rw [this] at hn;exact (List.nodup_cons.1 hn).2
   obtain ⟨rfl,rfl⟩:=Jv jm e;exact ⟨rfl,rfl⟩
theorem CW.AI (hc:CW X g0 h w) {l:List AV} {us:List Value} {Z:Array Value} (t:TypeId) (hr:au ⟨g0,live X h,w⟩ l us) (h1:∀ u∈us,u.oneCell'=true) :
  ∃ k g',g'.pl k=some ⟨w.heap.size,0,none⟩/\CW X g' ((k,.vec l)::h) (w.alloc (.cells (us.toArray++Z) t))/\Step X g0 h w g' ((k,.vec l)::h) (w.alloc (.cells (us.toArray++Z) t)):=by
 obtain ⟨k,f1,f2,st,mk⟩:=hc.newAt (.cells (us.toArray++Z) t) 0;refine ⟨k,_,by simp [Gh.set],mk (.vec l) ?_,st (.vec l)⟩;have hl:=hr.length;refine ⟨⟨w.heap.size,0,none⟩,us.toArray++Z,t,by simp [Gh.set],rfl,by simp [Gh.set],heap_alloc_new w _,by simp;omega,?_⟩;intro i x hx;obtain ⟨u,hu,cJ⟩:=hr.get i x hx;have aP:i<us.length:=(List.getElem?_eq_some_iff.1 hu).1;refine ⟨u,?_,h1 u (List.mem_of_getElem? hu),ae.mono (Step.le (st (.vec l))) _ _ cJ⟩;rw [Nat.zero_add,Array.getElem?_append_left (by simpa using aP)];simpa using hu
theorem OL {l1 l2:af} {b:Nat} {cs l:List AV} {us:List Value} {p:Addr} {N:Nat} (hc:CW X g0 (l1++(b,.vec cs)::l2) w) (hp:g0.pl b=some p) (hb:World.qd w p.block N) (hle:p.off+cs.length+l.length<=N)
  (bd:au ⟨g0,live X (l1++(b,.vec cs)::l2),w⟩ l us) (ho:∀ u∈us,u.oneCell'=true) :
  (storeCells (⟨p.block,p.off+cs.length,none⟩:Addr) us).run P w=.ok () (w.setCells p.block (p.off+cs.length) us) /\
  World.qd (w.setCells p.block (p.off+cs.length) us) p.block N /\
   CW X g0 (l1++(b,.vec (cs++l))::l2) (w.setCells p.block (p.off+cs.length) us) /\
   Step X g0 (l1++(b,.vec cs)::l2) w g0 (l1++(b,.vec (cs++l))::l2) (w.setCells p.block (p.off+cs.length) us):=by
 have jt:=hc.obj b (.vec cs) (by simp);obtain ⟨p',cc,t,h1,h2,h3,h4,h5,h6⟩:=jt;simp only at h1 h3 h4;rw [hp] at h1;cases h1
 obtain ⟨Jw,t0,f0,q1,q2⟩:=hb;rw [h4] at q1;cases q1
 have hlen:=bd.length;have iE:p.off+cs.length+us.length<=cc.size:=(by omega);obtain ⟨eG,e1,e2,e3,e4,e5,e6,e7,e8,e9⟩:=CR p.block us (p.off+cs.length) w cc t (0,0) h4 iE;have iG:b∈keys (l1++(b,.vec cs)::l2):=by rw [iZ];exact .inl rfl
 have ax:Step X g0 (l1++(b,.vec cs)::l2) w g0 (l1++(b,.vec (cs++l))::l2) (w.setCells p.block (p.off+cs.length) us):=by
  refine ⟨e7,e8,e9,by omega,fun _ _ e=>e,fun _ _ _ e _=>e,fun _ _ _ e _=>e,fun _ _ e=>e,?_,?_,?_⟩
  ·intro aT hb hn;have aM:aT≠p.block:=fun e=>hn b 0 (e ▸ h3) iG;refine ⟨e5 aT aM,fun k s hk hm=>hn k s hk ?_⟩;rw [iZ] at hm ⊢;exact hm
  ·intro aT k s hk hm dd tt ff eR;by_cases e:aT=p.block
   ·subst e;rw [h3] at hk;cases hk
    rw [h4] at eR;cases eR
    exact ⟨eG,e1,e2,fun o ho=>by omega⟩
   exact ⟨dd,(e5 aT e).trans eR,rfl,fun _ _=>rfl⟩
  intro aT k s hk _ k' s' bn _;rw [hk] at bn;cases bn;exact Nat.le_refl _
 refine ⟨?_,⟨eG,t,_,e1,by omega⟩,?_,ax⟩
 ·have ax:=run_storeCells_cells (P:=P) p.block (p.off+cs.length) us 0 w
   (fun j hj=>by
     simp only [Nat.add_zero];rw [cell_of_row w p.block _ cc t _ h4];have:p.off+cs.length+j<cc.size:=(by omega);simp [this])
   (fun j hj=>frozen_of_row w p.block _ cc t h4) ho
  simpa only [Nat.add_zero] using ax
 refine hc.replace ax (fun aT k s hk=>by have:=hc.own _ _ _ hk;omega) (.inl rfl) (fun k hk=>.inr hk) (fun aT s k hk=>.inr ⟨aT,s,hk⟩) ?_ ?_
 ·intro aT k s hk hm
  have aM:aT≠p.block:=by
   intro e;rw [e,h3] at hk;cases hk
   exact hc.sY hm
  exact ⟨e5 aT aM,rfl⟩
 refine ⟨p,eG,t,hp,h2,h3,e1,by simp;omega,?_⟩;intro i x hx;by_cases hi:i<cs.length
 ·rw [List.getElem?_append_left hi] at hx;obtain ⟨u,hu,bF,hr⟩:=h6 i x hx;exact ⟨u,by rw [e3 _ (by omega)];exact hu,bF,ae.mono (Step.le ax) _ _ hr⟩
 rw [List.getElem?_append_right (by omega)] at hx;obtain ⟨u,hu,hr⟩:=bd.get _ _ hx;have aP:i - cs.length<us.length:=(List.getElem?_eq_some_iff.1 hu).1;refine ⟨u,?_,ho u (List.mem_of_getElem? hu),ae.mono (Step.le ax) _ _ hr⟩;have:=e4 (i - cs.length) aP;rw [show p.off+cs.length+(i - cs.length)=p.off+i from by omega] at this;rw [this,<- hu,List.getElem?_eq_getElem aP]
theorem VM {l1 l2:af} {b k n:Nat} {cs:List AV} {ys:List (List AV)} {y:AV} {u uy:Value} {t tx ty e:TypeId} {K:AV->af->Prop} {next:Act->World->Prop} {o:Oper}
  {Q:Exit->Act->World->Prop} (hc:CW X g0 (l1++(b,.vec cs)::l2) w) (ht:P.underlying t=some (.slice e)) (eM:sB P tx=true) (iJ:1<=P.cellsOf e) (jN:P.bytesOf e<=4096)
  {z:List AV} (hz:iQ P e=some z) (iD:z.length=P.cellsOf e) (hk:k=P.cellsOf e) (kV:rq k y=some ys) (bT:cs.length=n*k) (dX:n+ys.length<=aN)
  (hx:ae ⟨g0,live X (l1++(b,.vec cs)::l2),w⟩ (.aQ b 0 n k) u) (hy:ae ⟨g0,live X (l1++(b,.vec cs)::l2),w⟩ y uy)
  (bu:∀ s w',(Builtin.append_ #[t,tx] ty #[u,uy]).run P w=.ok s w'->(execOp a.eval o).run P w=.ok (.value s) w')
  (hK:∀ b',K (.aQ b' 0 (n+ys.length) k) (l1++(b',.vec (cs++ys.flatten))::l2)) (hn:mO X g0 (l1++(b,.vec cs)::l2) w K o.dst a next):o.wp P a w next Q:=by
 obtain ⟨i,zv,hi,fT,eZ,eC⟩:=nr (c:=⟨g0,live X (l1++(b,.vec cs)::l2),w⟩) hz;have fV:i.size=P.cellsOf e:=(by simp [Program.cellsOf,hi]);have uq:i.bytes=P.bytesOf e:=(by simp [Program.bytesOf,hi]);have me:zv.cells.size=P.cellsOf e:=by have:=eZ.length;simp at this;omega
 obtain ⟨news,n1,n2,n3,n4,n5⟩:=xd (c:=⟨g0,live X (l1++(b,.vec cs)::l2),w⟩) kV hy;have gx:news.length=ys.length*k:=(by rw [n3.length,lx n4]);obtain ⟨q,cc,tt,h1,h2,h3,h4,h5,h6⟩:=hc.obj b (.vec cs) (by simp);simp only at h1 h3 h4;rw [ae] at hx;obtain ⟨p,cap,o',hp,hs,rfl,x2,x3,x4,x5,x6,x7⟩:=hx;simp only at hp x5;rw [h1] at hp;cases hp
 by_cases jI:n+ys.length<=cap
 ·by_cases lK:cap=0
  ·have gB:n=0:=(by omega);have Jx:ys=[]:=List.eq_nil_of_length_eq_zero (by omega);subst lK gB Jx;have VN:cs=[]:=List.eq_nil_of_length_eq_zero (by simpa using bT);subst VN;have gB:news=[]:=List.eq_nil_of_length_eq_zero (by simpa using gx);subst gB;refine ep (bu _ _ (AG (m:=0) (i:=i) ht eM hi (by simpa using n1) (by simpa [fV,hk] using n2 w rfl) (by omega) (w':=w) (fun Jt _=>rfl) (fun e=>by cases e))) ?_;refine hn _ _ g0 _ _ (hK b) (by simpa using hc) ?_ (by simpa using Step.refl _ _ _ _);rw [ae];exact ⟨q,0,o',h1,h2,rfl,by simp,by simp,x4,x5,fun h=>absurd h (by omega),by unfold pf;omega⟩
  have FK:=x6 (by omega);subst FK;have hle:q.off+cs.length+ys.flatten.length<=q.off+0+cap*k:=by rw [lx n4,bT,Nat.add_assoc,<- Nat.add_mul];have:=Nat.mul_le_mul_right k jI;omega
  obtain ⟨s1,s2,s3,s4⟩:=OL (P:=P) hc h1 x5 hle n3 n5;refine ep (bu _ _ (AG (m:=ys.length) (i:=i) ht eM hi n1 (by rw [fV,<- hk];exact n2 w rfl) jI (w':=w.setCells q.block (q.off+cs.length) news) ?_ (fun e=>by cases e))) ?_
  ·intro Jt he;cases he
   have eQ:(⟨q.block,q.off+0,none⟩:Addr).add (n*i.size)=⟨q.block,q.off+cs.length,none⟩:=by
    rw [bT,fV,<- hk];unfold Addr.add;split
    ·rename_i h0;rw [h0]
    simp
   rw [eQ];exact s1
  refine hn _ _ g0 _ _ (hK b) s3 ?_ s4;rw [ae];exact ⟨q,cap,0,h1,h2,rfl,jI,by unfold aq;unfold aN at dX;omega,x4,s2,fun _=>rfl,x7⟩
 have hg:cap<n+ys.length:=by omega
 -- the qe cells
 have hold:∃ du:List Value,du.length=cs.length/\(∀ (j:Nat) v,du[j]?=some v->cc[q.off+j]?=some v)/\au ⟨g0,live X (l1++(b,.vec cs)::l2),w⟩ cs du/\∀ v∈du,v.oneCell'=true:=by
  have key:∀ (l:List AV) (o:Nat),(∀ i x,l[i]?=some x->∃ u,cc[q.off+(o+i)]?=some u/\u.oneCell'=true/\ae ⟨g0,live X (l1++(b,.vec cs)::l2),w⟩ x u) ->
    ∃ du:List Value,du.length=l.length/\(∀ (j:Nat) v,du[j]?=some v->cc[q.off+(o+j)]?=some v)/\au ⟨g0,live X (l1++(b,.vec cs)::l2),w⟩ l du/\∀ v∈du,v.oneCell'=true:=by
   intro l;induction l with
   | nil=>intro o _;exact ⟨[],rfl,by simp,by simp [au],by simp⟩
   | cons x l ih=>
     intro o hh;obtain ⟨u,a1,a2,a3⟩:=hh 0 x (by simp)
     obtain ⟨du,b1,b2,b3,b4⟩:=ih (o+1) (fun i y hy=>by
      obtain ⟨v,c1,c2⟩:=hh (i+1) y (by simpa using hy);exact ⟨v,by rw [show o+1+i=o+(i+1) from by omega];exact c1,c2⟩)
     refine ⟨u::du,by simp [b1],?_,by simp only [au];exact ⟨_,_,rfl,a3,b3⟩,?_⟩
     ·intro j v hj;cases j with
      | zero=>simp at hj;subst hj;simpa using a1
      | succ j=>
        have:=b2 j v (by simpa using hj);rw [show o+(j+1)=o+1+j from by omega];exact this
     intro v hv;rcases List.mem_cons.1 hv with rfl|hv
     ·exact a2
     exact b4 v hv
  have:=key cs 0 (fun i x hx=>by simpa using h6 i x hx);simpa using this
 obtain ⟨du,o1,o2,o3,o4⟩:=hold
 have lE:=yV (P:=P) (w:=w) (ty:=ty) (i:=i) (z:=zv) (m:=ys.length) (du:=du) ht eM hi fT n1 (by rw [fV,<- hk];exact n2 w.drew rfl) (base:=some ⟨q.block,q.off+o',none⟩) (gR:=n)
  (by
    rw [fV,<- hk];refine run_firstCells_some w.drew k n ⟨q.block,q.off+o',none⟩ n cap du (by rw [o1,bT]) (fun j v hj=>?_);have gb:=(List.getElem?_eq_some_iff.1 hj).1;rw [o1,bT] at gb
    have gO:0<n:=by
     rcases Nat.eq_zero_or_pos n with h|h
     ·subst h;simp at gb
     exact h
    have FK:=x6 (by omega);subst FK
    have eQ:(⟨q.block,q.off+0,none⟩:Addr).add j=⟨q.block,q.off+j,none⟩:=by
     unfold Addr.add;split
     ·rename_i h0;rw [h0]
     simp
    rw [eQ];have:w.drew.heap[q.block]?=some (.cells cc tt (0,0)):=h4;rw [cell_of_row w.drew q.block _ cc tt _ this];exact o2 j v hj) hg dX (by omega)
 refine ep (bu _ _ lE) ?_;obtain ⟨c1,s1⟩:=hc.drew;have ur:=grownCap_ge w (n+ys.length) cap e
 obtain ⟨b',g',k1,k2,k3⟩:=c1.AI (l:=cs++ys.flatten) (us:=du++news) (Z:=Builtin.zeroCells zv.cells (grownCap w (n+ys.length) cap e - (n+ys.length))) e
  (au.mono (Step.le s1) _ _ (au.append o3 n3)) (by intro v hv;rcases List.mem_append.1 hv with h|h;exact o4 v h;exact n5 v h)
 have ax:=s1.trans hc.own k3
 have gA:∀ k' o',(k',o')∈l1++(b',Ob.vec (cs++ys.flatten))::l2->(k',o')∈(b',Ob.vec (cs++ys.flatten))::(l1++(b,Ob.vec cs)::l2):=by
  intro k' o' hm;simp only [List.mem_append,List.mem_cons] at hm ⊢;rcases hm with h|h|h
  ·exact .inr (.inl h)
  ·exact .inl h
  exact .inr (.inr (.inr h))
 have ew:(keys (l1++(b',Ob.vec (cs++ys.flatten))::l2)).Nodup:=by
  have ew:=k2.nodup;rw [um];simp only [keys,List.map_cons,List.map_append,List.nodup_cons,List.nodup_append,List.mem_append,List.mem_cons,not_or] at ew ⊢;obtain ⟨⟨a1,a2,a3⟩,b1,⟨b2,b3⟩,b4⟩:=ew;refine ⟨b1,⟨a3,b3⟩,fun x hx y hy=>?_⟩;rcases hy with rfl|hy
  ·rintro rfl;exact a1 hx
  exact b4 x hx y (.inr hy)
 obtain ⟨d1,d2⟩:=k2.sub gA ew;refine hn _ _ g' _ _ (hK b') d1 ?_ (ax.trans hc.own d2);rw [ae];have tc:=grownCap_le_maxLen w (n+ys.length) cap e (by unfold maxLen;unfold aN at dX;omega);refine ⟨_,_,0,k1,rfl,rfl,ur,by unfold aq;unfold aN at dX;omega,x4,?_,fun _=>rfl,by unfold pf;unfold maxLen at tc;omega⟩;refine ⟨_,_,_,heap_alloc_new w.drew _,?_⟩;simp only [Array.size_append,List.size_toArray,size_zeroCells,me,List.length_append,gx,o1,bT,<- hk];rw [<- Nat.add_mul,<- Nat.add_mul];have:n+ys.length+(grownCap w (n+ys.length) cap e - (n+ys.length))=grownCap w (n+ys.length) cap e:=(by omega);rw [this];omega
theorem VO {l1 l2:af} {b o:Nat} {cs l:List AV} {us:List Value} {p:Addr} {N:Nat} (hc:CW X g0 (l1++(b,.vec cs)::l2) w) (hp:g0.pl b=some p) (hb:World.qd w p.block N) (wX:o<=cs.length) (hle:p.off+o+l.length<=N)
  (bd:au ⟨g0,live X (l1++(b,.vec cs)::l2),w⟩ l us) (ho:∀ u∈us,u.oneCell'=true) :
  (storeCells (⟨p.block,p.off+o,none⟩:Addr) us).run P w=.ok () (w.setCells p.block (p.off+o) us) /\
  (∀ M,World.qd w p.block M->World.qd (w.setCells p.block (p.off+o) us) p.block M) /\
    CW X g0 (l1++(b,.vec (dn cs o l))::l2) (w.setCells p.block (p.off+o) us) /\
    Step X g0 (l1++(b,.vec cs)::l2) w g0 (l1++(b,.vec (dn cs o l))::l2) (w.setCells p.block (p.off+o) us):=by
 have jt:=hc.obj b (.vec cs) (by simp);obtain ⟨p',cc,t,h1,h2,h3,h4,h5,h6⟩:=jt;simp only at h1 h3 h4;rw [hp] at h1;cases h1
 obtain ⟨Jw,t0,f0,q1,q2⟩:=hb;rw [h4] at q1;cases q1
 have hlen:=bd.length;have iE:p.off+o+us.length<=cc.size:=(by omega);obtain ⟨eG,e1,e2,e3,e4,e5,e6,e7,e8,e9⟩:=CR p.block us (p.off+o) w cc t (0,0) h4 iE;have iG:b∈keys (l1++(b,.vec cs)::l2):=by rw [iZ];exact .inl rfl
 have ax:Step X g0 (l1++(b,.vec cs)::l2) w g0 (l1++(b,.vec (dn cs o l))::l2) (w.setCells p.block (p.off+o) us):=by
  refine ⟨e7,e8,e9,by omega,fun _ _ e=>e,fun _ _ _ e _=>e,fun _ _ _ e _=>e,fun _ _ e=>e,?_,?_,?_⟩
  ·intro aT hb hn;have aM:aT≠p.block:=fun e=>hn b 0 (e ▸ h3) iG;refine ⟨e5 aT aM,fun k s hk hm=>hn k s hk ?_⟩;rw [iZ] at hm ⊢;exact hm
  ·intro aT k s hk hm dd tt ff eR;by_cases e:aT=p.block
   ·subst e;rw [h3] at hk;cases hk
    rw [h4] at eR;cases eR
    exact ⟨eG,e1,e2,fun o ho=>by omega⟩
   exact ⟨dd,(e5 aT e).trans eR,rfl,fun _ _=>rfl⟩
  intro aT k s hk _ k' s' bn _;rw [hk] at bn;cases bn;exact Nat.le_refl _
 refine ⟨?_,fun M hM=>?_,?_,ax⟩
 ·have ax:=run_storeCells_cells (P:=P) p.block (p.off+o) us 0 w
   (fun j hj=>by
     simp only [Nat.add_zero];rw [cell_of_row w p.block _ cc t _ h4];have:p.off+o+j<cc.size:=(by omega);simp [this])
   (fun j hj=>frozen_of_row w p.block _ cc t h4) ho
  simpa only [Nat.add_zero] using ax
 ·obtain ⟨Jw,t0,f0,q1,q3⟩:=hM;rw [h4] at q1;cases q1
  exact ⟨eG,t,_,e1,by omega⟩
 have fl:(dn cs o l).length=max cs.length (o+l.length):=by unfold dn;simp only [List.length_append,List.length_take,List.length_drop];omega
 refine hc.replace ax (fun aT k s hk=>by have:=hc.own _ _ _ hk;omega) (.inl rfl) (fun k hk=>.inr hk) (fun aT s k hk=>.inr ⟨aT,s,hk⟩) ?_ ?_
 ·intro aT k s hk hm
  have aM:aT≠p.block:=by
   intro e;rw [e,h3] at hk;cases hk
   exact hc.sY hm
  exact ⟨e5 aT aM,rfl⟩
 refine ⟨p,eG,t,hp,h2,h3,e1,by rw [fl];omega,?_⟩;intro i x hx;unfold dn at hx;by_cases hi:i<o
 ·rw [List.getElem?_append_left (by simp;omega),List.getElem?_append_left (by simp;omega),List.getElem?_take_of_lt hi] at hx;obtain ⟨u,hu,bF,hr⟩:=h6 i x hx;exact ⟨u,by rw [e3 _ (.inl (by omega))];exact hu,bF,ae.mono (Step.le ax) _ _ hr⟩
 by_cases aG:i<o+l.length
 ·rw [List.getElem?_append_left (by simp;omega),List.getElem?_append_right (by simp;omega)] at hx;have jl:(cs.take o).length=o:=by simp;omega
  rw [jl] at hx;obtain ⟨u,hu,hr⟩:=bd.get _ _ hx;have aP:i - o<us.length:=(List.getElem?_eq_some_iff.1 hu).1;refine ⟨u,?_,ho u (List.mem_of_getElem? hu),ae.mono (Step.le ax) _ _ hr⟩;have:=e4 (i - o) aP;rw [show p.off+o+(i - o)=p.off+i from by omega] at this;rw [this,<- hu,List.getElem?_eq_getElem aP]
 have jl:(cs.take o++l).length=o+l.length:=by simp;omega
 rw [List.getElem?_append_right (by omega),jl,List.getElem?_drop,show o+l.length+(i - (o+l.length))=i from by omega] at hx;obtain ⟨u,hu,bF,hr⟩:=h6 i x hx;exact ⟨u,by rw [e3 _ (.inr (by omega))];exact hu,bF,ae.mono (Step.le ax) _ _ hr⟩
theorem Jy {c:Cx} {cc:Array Value} {q:Addr} {cs:List AV} (h6:∀ i x,cs[i]?=some x->∃ u,cc[q.off+i]?=some u/\u.oneCell'=true/\ae c x u) :
  ∀ (l:List AV) (o:Nat),(∀ i x,l[i]?=some x->cs[o+i]?=some x) ->
   ∃ du:List Value,du.length=l.length/\(∀ (j:Nat) v,du[j]?=some v->cc[q.off+(o+j)]?=some v)/\au c l du/\∀ v∈du,v.oneCell'=true
 | [],o,_=>⟨[],rfl,by simp,by simp [au],by simp⟩
 | x::l,o,hh=>by
   obtain ⟨u,a1,a2,a3⟩:=h6 o x (by simpa using hh 0 x (by simp))
   obtain ⟨du,b1,b2,b3,b4⟩:=Jy h6 l (o+1) (fun i y hy=>by
    rw [show o+1+i=o+(i+1) from by omega];exact hh (i+1) y (by simpa using hy))
   refine ⟨u::du,by simp [b1],?_,by simp only [au];exact ⟨_,_,rfl,a3,b3⟩,?_⟩
   ·intro j v hj;cases j with
    | zero=>simp at hj;subst hj;simpa using a1
    | succ j=>
      have:=b2 j v (by simpa using hj);rw [show o+(j+1)=o+1+j from by omega];exact this
   intro v hv;rcases List.mem_cons.1 hv with rfl|hv
   ·exact a2
   exact b4 v hv
theorem VP {l1 l2:af} {b k n off cap:Nat} {cs:List AV} {ys:List (List AV)} {u uy:Value} {t tx ty e:TypeId} {K:AV->af->Prop} {next:Act->World->Prop} {o:Oper}
  {Q:Exit->Act->World->Prop} (hc:CW X g0 (l1++(b,.vec cs)::l2) w) (ht:P.underlying t=some (.slice e)) (eM:sB P tx=true) (iJ:1<=P.cellsOf e)
  (hk:k=P.cellsOf e) (bT:cs.length=off+n*k) (dX:n+ys.length<=aN) (jI:n+ys.length<=cap)
  (uo:∃ news:List Value,(∀ w',(Builtin.lenOf uy).run P w'=.ok ys.length w')/\(∀ w':World,w'.heap=w.heap->(Builtin.firstCells k ys.length uy).run P w'=.ok news.toArray w') /\
    au ⟨g0,live X (l1++(b,.vec cs)::l2),w⟩ ys.flatten news/\(∀ x∈ys,x.length=k)/\(∀ v∈news,v.oneCell'=true))
  (hx:ae ⟨g0,live X (l1++(b,.vec cs)::l2),w⟩ (.eO b off n cap k) u)
  (bu:∀ s w',(Builtin.append_ #[t,tx] ty #[u,uy]).run P w=.ok s w'->(execOp a.eval o).run P w=.ok (.value s) w')
  (hK:K (.eO b off (n+ys.length) cap k) (l1++(b,.vec (cs++ys.flatten))::l2)) (hn:mO X g0 (l1++(b,.vec cs)::l2) w K o.dst a next):o.wp P a w next Q:=by
 obtain ⟨i,hi⟩:∃ i,P.info? e=some i:=by
  cases hi:P.info? e with
  | none=>simp [Program.cellsOf,hi] at iJ
  | some i=>exact ⟨i,rfl⟩
 have fV:i.size=P.cellsOf e:=(by simp [Program.cellsOf,hi]);obtain ⟨news,n1,n2,n3,n4,n5⟩:=uo;obtain ⟨q,cc,tt,h1,h2,h3,h4,h5,h6⟩:=hc.obj b (.vec cs) (by simp);simp only at h1 h3 h4;rw [ae] at hx;obtain ⟨p,hp,hs,rfl,x2,x3,x4,x5,x6⟩:=hx;simp only at hp x5;rw [h1] at hp;cases hp
 have hle:q.off+cs.length+ys.flatten.length<=q.off+off+cap*k:=by rw [lx n4,bT];have:=Nat.mul_le_mul_right k jI;rw [Nat.add_mul] at this;omega
 obtain ⟨s1,s2,s3,s4⟩:=OL (P:=P) hc h1 x5 hle n3 n5;refine ep (bu _ _ (AG (m:=ys.length) (i:=i) ht eM hi n1 (by rw [fV,<- hk];exact n2 w rfl) jI (w':=w.setCells q.block (q.off+cs.length) news) ?_ (fun e=>by cases e))) ?_
 ·intro Jt he;cases he
  have eQ:(⟨q.block,q.off+off,none⟩:Addr).add (n*i.size)=⟨q.block,q.off+cs.length,none⟩:=by
   rw [bT,fV,<- hk];unfold Addr.add;split
   ·rename_i h0;rw [h0];simp
   simp [Nat.add_assoc]
  rw [eQ];exact s1
 refine hn _ _ g0 _ _ hK s3 ?_ s4;rw [ae];exact ⟨q,h1,h2,rfl,jI,by unfold aq;unfold aN at dX;omega,x4,s2,x6⟩
theorem OM {b k n off cap:Nat} {cs:List AV} {ys:List (List AV)} {u uy:Value} {t tx ty e:TypeId} {K:AV->af->Prop} {next:Act->World->Prop} {o:Oper}
  {Q:Exit->Act->World->Prop} (hc:CW X g0 h w) (cH:(b,Ob.vec cs)∈h) (ht:P.underlying t=some (.slice e)) (eM:sB P tx=true) (iJ:1<=P.cellsOf e) (jN:P.bytesOf e<=4096)
  {z:List AV} (hz:iQ P e=some z) (iD:z.length=P.cellsOf e) (hk:k=P.cellsOf e) (bT:n=0\/off+n*k<=cs.length) (dX:n+ys.length<=aN) (hg:cap<n+ys.length)
  (uo:∃ news:List Value,(∀ w',(Builtin.lenOf uy).run P w'=.ok ys.length w')/\(∀ w':World,w'.heap=w.heap->(Builtin.firstCells k ys.length uy).run P w'=.ok news.toArray w') /\
    au ⟨g0,live X h,w⟩ ys.flatten news/\(∀ x∈ys,x.length=k)/\(∀ v∈news,v.oneCell'=true))
  (hx:ae ⟨g0,live X h,w⟩ (.eO b off n cap k) u)
  (bu:∀ s w',(Builtin.append_ #[t,tx] ty #[u,uy]).run P w=.ok s w'->(execOp a.eval o).run P w=.ok (.value s) w')
  (hK:∀ q,K (.aQ q 0 (n+ys.length) k) ((q,.vec ((cs.drop off).take (n*k)++ys.flatten))::h)) (hn:mO X g0 h w K o.dst a next):o.wp P a w next Q:=by
 obtain ⟨i,zv,hi,fT,eZ,eC⟩:=nr (c:=⟨g0,live X h,w⟩) hz;have fV:i.size=P.cellsOf e:=(by simp [Program.cellsOf,hi]);have uq:i.bytes=P.bytesOf e:=(by simp [Program.bytesOf,hi]);have me:zv.cells.size=P.cellsOf e:=by have:=eZ.length;simp at this;omega
 obtain ⟨news,n1,n2,n3,n4,n5⟩:=uo;have gx:news.length=ys.length*k:=(by rw [n3.length,lx n4]);obtain ⟨q,cc,tt,h1,h2,h3,h4,h5,h6⟩:=hc.obj b (.vec cs) cH;simp only at h1 h3 h4;rw [ae] at hx;obtain ⟨p,hp,hs,rfl,x2,x3,x4,x5,x6⟩:=hx;simp only at hp x5;rw [h1] at hp;cases hp
 have eu:((cs.drop off).take (n*k)).length=n*k:=by
  rcases bT with h|h
  ·subst h;simp
  simp;omega
 obtain ⟨du,o1,o2,o3,o4⟩:=Jy (q:=q) h6 ((cs.drop off).take (n*k)) off (fun j x hj=>by
  have gb:=(List.getElem?_eq_some_iff.1 hj).1;rw [eu] at gb;rw [List.getElem?_take_of_lt gb,List.getElem?_drop] at hj;exact hj)
 have lE:=yV (P:=P) (w:=w) (ty:=ty) (i:=i) (z:=zv) (m:=ys.length) (du:=du) ht eM hi fT n1 (by rw [fV,<- hk];exact n2 w.drew rfl) (base:=some ⟨q.block,q.off+off,none⟩) (gR:=n)
  (by
    rw [fV,<- hk];refine run_firstCells_some w.drew k n ⟨q.block,q.off+off,none⟩ n cap du (by rw [o1,eu]) (fun j v hj=>?_)
    have eQ:(⟨q.block,q.off+off,none⟩:Addr).add j=⟨q.block,q.off+(off+j),none⟩:=by
     unfold Addr.add;split
     ·rename_i h0;rw [h0];simp
     simp [Nat.add_assoc]
    rw [eQ];have:w.drew.heap[q.block]?=some (.cells cc tt (0,0)):=h4;rw [cell_of_row w.drew q.block _ cc tt _ this];exact o2 j v hj) hg dX (by omega)
 refine ep (bu _ _ lE) ?_;obtain ⟨c1,s1⟩:=hc.drew;have ur:=grownCap_ge w (n+ys.length) cap e;have tc:=grownCap_le_maxLen w (n+ys.length) cap e (by unfold maxLen;unfold aN at dX;omega)
 obtain ⟨b',g',k1,k2,k3⟩:=c1.AI (l:=(cs.drop off).take (n*k)++ys.flatten) (us:=du++news) (Z:=Builtin.zeroCells zv.cells (grownCap w (n+ys.length) cap e - (n+ys.length))) e
  (au.mono (Step.le s1) _ _ (au.append o3 n3)) (by intro v hv;rcases List.mem_append.1 hv with h|h;exact o4 v h;exact n5 v h)
 refine hn _ _ g' _ _ (hK b') k2 ?_ (s1.trans hc.own k3);rw [ae];refine ⟨_,_,0,k1,rfl,rfl,ur,by unfold aq;unfold aN at dX;omega,x4,?_,fun _=>rfl,by unfold pf;unfold maxLen at tc;omega⟩;refine ⟨_,_,_,heap_alloc_new w.drew _,?_⟩;simp only [Array.size_append,List.size_toArray,size_zeroCells,me,List.length_append,gx,o1,eu,<- hk];rw [<- Nat.add_mul,<- Nat.add_mul];have:n+ys.length+(grownCap w (n+ys.length) cap e - (n+ys.length))=grownCap w (n+ys.length) cap e:=(by omega);rw [this];omega
theorem VQ {b k n off cap m:Nat} {kq:IntKind} {cs:List AV} {u:Value} {t tx ty e:TypeId} {kn:IntKind} {K:AV->af->Prop} {next:Act->World->Prop} {o:Oper}
  {Q:Exit->Act->World->Prop} (hc:CW X g0 h w) (cH:(b,Ob.vec cs)∈h) (ht:P.underlying t=some (.slice e)) (eM:P.underlying tx=some (.int kn)) (iJ:1<=P.cellsOf e) (jN:P.bytesOf e<=4096)
  {z:List AV} (hz:iQ P e=some z) (iD:z.length=P.cellsOf e) (hk:k=P.cellsOf e) (bT:off+n*k<=cs.length) (hm:0<m) (dX:n+m<=4294967296) (hg:cap<n+m)
  (hx:ae ⟨g0,live X h,w⟩ (.eO b off n cap k) u)
  (bu:∀ s w',(Builtin.append_ #[t,tx] ty #[u,.int kq m]).run P w=.ok s w'->(execOp a.eval o).run P w=.ok (.value s) w')
  (hK:∀ q,K (.aQ q 0 (n+m) k) ((q,.vec ((cs.drop off).take (n*k)++gS m z))::h)) (hn:mO X g0 h w K o.dst a next):o.wp P a w next Q:=by
 obtain ⟨i,zv,hi,fT,eZ,eC⟩:=nr (c:=⟨g0,live X h,w⟩) hz;have fV:i.size=P.cellsOf e:=(by simp [Program.cellsOf,hi]);have uq:i.bytes=P.bytesOf e:=(by simp [Program.bytesOf,hi]);have me:zv.cells.size=P.cellsOf e:=by have:=eZ.length;simp at this;omega
 obtain ⟨q,cc,tt,h1,h2,h3,h4,h5,h6⟩:=hc.obj b (.vec cs) cH;simp only at h1 h3 h4;rw [ae] at hx;obtain ⟨p,hp,hs,rfl,x2,x3,x4,x5,x6⟩:=hx;simp only at hp x5;rw [h1] at hp;cases hp
 have eu:((cs.drop off).take (n*k)).length=n*k:=by simp;omega
 obtain ⟨du,o1,o2,o3,o4⟩:=Jy (q:=q) h6 ((cs.drop off).take (n*k)) off (fun j x hj=>by
  have gb:=(List.getElem?_eq_some_iff.1 hj).1;rw [eu] at gb;rw [List.getElem?_take_of_lt gb,List.getElem?_drop] at hj;exact hj)
 have iE:Builtin.nextslicecap (n+m) cap*i.bytes<=281474976710656:=by have h1:Builtin.nextslicecap (n+m) cap<=2*(n+m):=nextslicecap_le hg;exact Nat.le_trans (Nat.mul_le_mul h1 (by omega:i.bytes<=4096)) (by omega)
 have VR:m*i.bytes<=281474976710656:=Nat.le_trans (Nat.mul_le_mul (by omega:m<=4294967296) (by omega:i.bytes<=4096)) (by omega)
 have lE:=Go.Lib.run_append_grow_zeros (P:=P) w t tx ty e i zv kq kn ht eM hi fT (some ⟨q.block,q.off+off,none⟩) n cap du
  (by
    rw [fV,<- hk];refine run_firstCells_some w.drew k n ⟨q.block,q.off+off,none⟩ n cap du (by rw [o1,eu]) (fun j v hj=>?_)
    have eQ:(⟨q.block,q.off+off,none⟩:Addr).add j=⟨q.block,q.off+(off+j),none⟩:=by
     unfold Addr.add;split
     ·rename_i h0;rw [h0];simp
     simp [Nat.add_assoc]
    rw [eQ];have:w.drew.heap[q.block]?=some (.cells cc tt (0,0)):=h4;rw [cell_of_row w.drew q.block _ cc tt _ this];exact o2 j v hj) m hm (by omega) hg (by omega) VR iE
 refine ep (bu _ _ lE) ?_;obtain ⟨c1,s1⟩:=hc.drew;have ur:=grownCap_ge w (n+m) cap e;have tc:=grownCap_le_maxLen w (n+m) cap e (by unfold maxLen;omega);have Jz:(Builtin.zeroCells zv.cells m).toList=(List.replicate m zv.cells.toList).flatten:=FH zv.cells (by omega) m;have VS:=au.FI eZ m
 obtain ⟨b',g',k1,k2,k3⟩:=c1.AI (l:=(cs.drop off).take (n*k)++gS m z) (us:=du++(List.replicate m zv.cells.toList).flatten) (Z:=Builtin.zeroCells zv.cells (grownCap w (n+m) cap e - (n+m))) e
  (au.mono (Step.le s1) _ _ (au.append o3 VS)) (by
    intro v hv;rcases List.mem_append.1 hv with h|h
    ·exact o4 v h
    simp only [List.mem_flatten,List.mem_replicate] at h;obtain ⟨l,⟨_,rfl⟩,hu⟩:=h;exact eC v (by simpa using hu))
 have e1:du.toArray++Builtin.zeroCells zv.cells m=(du++(List.replicate m zv.cells.toList).flatten).toArray:=by rw [<- Array.toList_inj];simp [Jz]
 rw [e1];refine hn _ _ g' _ _ (hK b') k2 ?_ (s1.trans hc.own k3);rw [ae];refine ⟨_,_,0,k1,rfl,rfl,ur,by unfold aq;omega,x4,?_,fun _=>rfl,by unfold pf;unfold maxLen at tc;omega⟩;refine ⟨_,_,_,heap_alloc_new w.drew _,?_⟩;have mc:(List.replicate m zv.cells.toList).flatten.length=m*k:=(by simp [me,hk]);simp only [Array.size_append,List.size_toArray,size_zeroCells,me,List.length_append,mc,o1,eu,<- hk];rw [<- Nat.add_mul,<- Nat.add_mul];have:n+m+(grownCap w (n+m) cap e - (n+m))=grownCap w (n+m) cap e:=(by omega);rw [this];omega
end Go.Abs
/-
 The abstract fR,part I: all wx EL.
-/
namespace Go.Abs
open Go
variable {P:Program} {n:Nat} {X:Nat->Prop} {g0:Gh} {r:aC} {h:af} {a:Act} {w:World}
theorem uu {cl:Call} {t tx:TypeId} {u uy:Value} {o:Oper} {b:Array Bool} (ho:o.op=.call cl) (cU:cl.callee=.builtin .append) (bc:cl.argTypes.toList=[t,tx])
  (jF:cl.args.toList.map a.eval=[u,uy]):∀ s w',(Builtin.append_ #[t,tx] o.type #[u,uy]).run P w=.ok s w'->(execOp a.eval o).run P w=.ok (.value s) w':=by
 intro s w' hh;have h1:cl.args.map a.eval=#[u,uy]:=by rw [<- Array.toList_inj];simpa using jF
 have h2:cl.argTypes=#[t,tx]:=by rw [<- Array.toList_inj];simpa using bc
 simp [execOp,ho,resolve,cU,invoke,builtin,h1,h2,hh]
theorem ON {l1 l2:af} {b:Nat} {es te:List (AV × AV)} {p:Addr} {aj eF:Array MapEntry} {cl uw:Nat} (hc:CW X g0 (l1++(b,.map es)::l2) w) (hp:g0.pl b=some p) (ho:g0.ow p.block=some (b,0))
  (hb:w.heap[p.block]?=some (.map aj cl)) (he:eP ⟨g0,live X (l1++(b,.map es)::l2),w⟩ te eF.toList) (h1:∀ x∈eF.toList,x.born<uw) (h2:(eF.toList.map (·.born)).Nodup) :
  (setObj p.block (.map eF uw)).run P w=.ok () { w with heap:=w.heap.setIfInBounds p.block (.map eF uw) } /\
  CW X g0 (l1++(b,.map te)::l2) { w with heap:=w.heap.setIfInBounds p.block (.map eF uw) } /\
  Step X g0 (l1++(b,.map es)::l2) w g0 (l1++(b,.map te)::l2) { w with heap:=w.heap.setIfInBounds p.block (.map eF uw) }:=by
 have aP:p.block<w.heap.size:=(Array.getElem?_eq_some_iff.1 hb).1;have sZ:∀ aT,aT≠p.block->(w.heap.setIfInBounds p.block (.map eF uw))[aT]?=w.heap[aT]?:=fun aT aM=>Array.getElem?_setIfInBounds_ne (Ne.symm aM);have iG:b∈keys (l1++(b,.map es)::l2):=by rw [iZ];exact .inl rfl
 have ax:Step X g0 (l1++(b,.map es)::l2) w g0 (l1++(b,.map te)::l2) { w with heap:=w.heap.setIfInBounds p.block (.map eF uw) }:=by
  refine ⟨rfl,⟨rfl,Nat.le_refl _⟩,rfl,by simp,fun _ _ e=>e,fun _ _ _ e _=>e,fun _ _ _ e _=>e,fun _ _ e=>e,?_,?_,?_⟩
  ·intro aT aP hn;have aM:aT≠p.block:=fun e=>hn b 0 (e ▸ ho) iG;refine ⟨sZ aT aM,fun k s hk hm=>hn k s hk ?_⟩;rw [iZ] at hm ⊢;exact hm
  ·intro aT k s hk hm dd tt ff eR;by_cases e:aT=p.block
   ·subst e;rw [hb] at eR;cases eR
   exact ⟨dd,(sZ aT e).trans eR,rfl,fun _ _=>rfl⟩
  intro aT k s hk _ k' s' bn _;rw [hk] at bn;cases bn;exact Nat.le_refl _
 refine ⟨by simp [setObj,Sem.run,hb],?_,ax⟩;refine hc.replace ax (fun aT k s hk=>by have:=hc.own _ _ _ hk;simpa using this) (.inl rfl) (fun k hk=>.inr hk) (fun aT s k hk=>.inr ⟨aT,s,hk⟩) ?_ ?_
 ·intro aT k s hk hm
  have aM:aT≠p.block:=by
   intro e;rw [e,ho] at hk;cases hk
   exact hc.sY hm
  exact ⟨sZ aT aM,rfl⟩
 exact ⟨p,uw,eF,hp,ho,by simp [aP],eP.mono (Step.le ax) he,h1,h2⟩
theorem eP.append {c:Cx}:∀ {es:List (AV × AV)} {aj:List MapEntry} {k v:AV} {e:MapEntry},eP c es aj->ae c k e.key->ae c v e.val->eP c (es++[(k,v)]) (aj++[e])
 | [],aj,k,v,e,h,h1,h2=>by simp [eP] at h;subst h;exact ⟨e,[],rfl,h1,h2,rfl⟩
 | x::es,aj,k,v,e,h,h1,h2=>by obtain ⟨e',r,rfl,a1,a2,a3⟩:=h;exact ⟨e',r++[e],rfl,a1,a2,eP.append a3 h1 h2⟩
theorem VT (l:List MapEntry) (j:Nat) (u v:Value):(l.modify j fun e=>{ e with key:=u,val:=v }).map (·.born)=l.map (·.born):=by
 induction l generalizing j with
 | nil=>cases j<;>rfl
 | cons y l ih=>
   cases j with
   | zero=>rfl
   | succ j=>
     rw [List.modify_succ_cons,List.map_cons,List.map_cons,ih j]
theorem yY {b2 o2 n2 k2:Nat} {cs:List AV} {ys:List (List AV)} {u:Value} (hc:CW X g0 h w) (cH:(b2,Ob.vec cs)∈h) (hu:ae ⟨g0,live X h,w⟩ (.aQ b2 o2 n2 k2) u)
  (bT:(cs.drop o2).take (n2*k2)=ys.flatten) (lL:∀ z∈ys,z.length=k2) (gC:ys.length=n2) :
  ∃ news:List Value,(∀ w',(Builtin.lenOf u).run P w'=.ok ys.length w')/\(∀ w':World,w'.heap=w.heap->(Builtin.firstCells k2 ys.length u).run P w'=.ok news.toArray w') /\
   au ⟨g0,live X h,w⟩ ys.flatten news/\(∀ x∈ys,x.length=k2)/\(∀ v∈news,v.oneCell'=true):=by
 simp only [ae] at hu;obtain ⟨p,cap,JA,hp,mA,rfl,x2,x3,x4,x5,x6,x7⟩:=hu;obtain ⟨q,cc,t,h1,h2,h3,h4,h5,h6⟩:=hc.obj b2 _ cH;simp only at h1 h3 h4 hp;rw [hp] at h1;cases h1
 have cY:ys.flatten.length=n2*k2:=(by rw [lx lL,gC]);have hlen:o2+n2*k2<=cs.length\/n2*k2=0:=by have:=congrArg List.length bT;rw [cY,List.length_take,List.length_drop] at this;omega
 have lz:∀ j,j<n2*k2->∃ x,ys.flatten[j]?=some x/\cc[p.off+(o2+j)]?=some (cc[p.off+(o2+j)]!)/\(cc[p.off+(o2+j)]!).oneCell'=true/\ae ⟨g0,live X h,w⟩ x (cc[p.off+(o2+j)]!):=by
  intro j hj;have eI:o2+j<cs.length:=(by omega);have hg:ys.flatten[j]?=some cs[o2+j]:=(by rw [<- bT,List.getElem?_take_of_lt hj,List.getElem?_drop,List.getElem?_eq_getElem eI]);obtain ⟨v,a1,a2,a3⟩:=h6 (o2+j) cs[o2+j] (List.getElem?_eq_getElem eI);have hv:cc[p.off+(o2+j)]! = v:=by have xf:=(Array.getElem?_eq_some_iff.1 a1).1;rw [getElem!_pos cc _ xf];exact (Array.getElem?_eq_some_iff.1 a1).2
  exact ⟨_,hg,by rw [hv];exact a1,by rw [hv];exact a2,by rw [hv];exact a3⟩
 have gx:((List.range (n2*k2)).map fun j=>cc[p.off+(o2+j)]!).length=n2*k2:=(by simp);have OO:∀ j,j<n2*k2->((List.range (n2*k2)).map fun j=>cc[p.off+(o2+j)]!)[j]?=some (cc[p.off+(o2+j)]!):=fun j hj=>by simp [hj]
 have cJ:∀ {xs:List AV} {us:List Value},xs.length=us.length->(∀ (i:Nat) x u,xs[i]?=some x->us[i]?=some u->ae ⟨g0,live X h,w⟩ x u)->au ⟨g0,live X h,w⟩ xs us:=by
  intro xs;induction xs with
  | nil=>intro us hl _;have:us=[]:=List.eq_nil_of_length_eq_zero (by simpa using hl.symm);subst this;simp [au]
  | cons x xs ih=>
    intro us hl hh
    match us,hl with
    | v::us,hl=>
      simp only [au];exact ⟨v,us,rfl,hh 0 x v rfl rfl,ih (by simpa using hl) fun i x u h1 h2=>hh (i+1) x u (by simpa using h1) (by simpa using h2)⟩
 refine ⟨(List.range (n2*k2)).map fun j=>cc[p.off+(o2+j)]!,fun w'=>by simp [Builtin.lenOf,gC],fun w' hw=>?_,cJ (by rw [cY,gx]) fun j x v hx hv=>?_,lL,fun v hv=>?_⟩
 ·rw [gC];refine run_firstCells_some w' k2 n2 ⟨p.block,p.off+JA,none⟩ n2 cap _ gx (fun j v hj=>?_);have eI:j<n2*k2:=by have:=(List.getElem?_eq_some_iff.1 hj).1;rw [gx] at this;exact this
  have dN:0<n2:=by
   rcases Nat.eq_zero_or_pos n2 with h|h
   ·subst h;simp at eI
   exact h
  have:=x6 (by omega);subst this;rw [OO j eI] at hj;cases hj
  obtain ⟨_,_,a1,_,_⟩:=lz j eI
  have eQ:(⟨p.block,p.off+JA,none⟩:Addr).add j=⟨p.block,p.off+(JA+j),none⟩:=by
   unfold Addr.add;split
   ·rename_i h0;rw [h0];simp
   simp [Nat.add_assoc]
  rw [eQ];simp only [World.cell?,hw,h4];simpa using a1
 ·have eI:j<n2*k2:=by have:=(List.getElem?_eq_some_iff.1 hv).1;rw [gx] at this;exact this
  rw [OO j eI] at hv;cases hv
  obtain ⟨x',b1,_,_,b4⟩:=lz j eI;rw [hx] at b1;cases b1
  exact b4
 obtain ⟨j,hj,rfl⟩:=List.mem_map.1 hv;exact (lz j (List.mem_range.1 hj)).choose_spec.2.2.1
theorem OP {r pos:Nat} {b:ByteArray} (h:w.heap[r]?=some (.stringIter b pos)):(getObj r).run P w=.ok (.stringIter b pos) w:=by simp [getObj,Sem.run,h]
theorem VU {l1 l2:af} {b pos pos':Nat} {s:List UInt8} {bs:ByteArray} {p:Addr} (hc:CW X g0 (l1++(b,.oB s pos)::l2) w) (hp:g0.pl b=some p) (ho:g0.ow p.block=some (b,0))
  (hb:w.heap[p.block]?=some (.stringIter bs pos)) (hs:bs.data.toList=s) (hl:s.length<=aq) :
  (setObj p.block (.stringIter bs pos')).run P w=.ok () { w with heap:=w.heap.setIfInBounds p.block (.stringIter bs pos') } /\
  CW X g0 (l1++(b,.oB s pos')::l2) { w with heap:=w.heap.setIfInBounds p.block (.stringIter bs pos') } /\
  Step X g0 (l1++(b,.oB s pos)::l2) w g0 (l1++(b,.oB s pos')::l2) { w with heap:=w.heap.setIfInBounds p.block (.stringIter bs pos') }:=by
 have aP:p.block<w.heap.size:=(Array.getElem?_eq_some_iff.1 hb).1;have sZ:∀ aT,aT≠p.block->(w.heap.setIfInBounds p.block (.stringIter bs pos'))[aT]?=w.heap[aT]?:=fun aT aM=>Array.getElem?_setIfInBounds_ne (Ne.symm aM);have iG:b∈keys (l1++(b,.oB s pos)::l2):=by rw [iZ];exact .inl rfl
 have ax:Step X g0 (l1++(b,.oB s pos)::l2) w g0 (l1++(b,.oB s pos')::l2) { w with heap:=w.heap.setIfInBounds p.block (.stringIter bs pos') }:=by
  refine ⟨rfl,⟨rfl,Nat.le_refl _⟩,rfl,by simp,fun _ _ e=>e,fun _ _ _ e _=>e,fun _ _ _ e _=>e,fun _ _ e=>e,?_,?_,?_⟩
  ·intro aT aP hn;have aM:aT≠p.block:=fun e=>hn b 0 (e ▸ ho) iG;refine ⟨sZ aT aM,fun k s hk hm=>hn k s hk ?_⟩;rw [iZ] at hm ⊢;exact hm
  ·intro aT k s hk hm dd tt ff eR;by_cases e:aT=p.block
   ·subst e;rw [hb] at eR;cases eR
   exact ⟨dd,(sZ aT e).trans eR,rfl,fun _ _=>rfl⟩
  intro aT k s hk _ k' s' bn _;rw [hk] at bn;cases bn;exact Nat.le_refl _
 refine ⟨by simp [setObj,Sem.run,hb],?_,ax⟩;refine hc.replace ax (fun aT k s hk=>by have:=hc.own _ _ _ hk;simpa using this) (.inl rfl) (fun k hk=>.inr hk) (fun aT s k hk=>.inr ⟨aT,s,hk⟩) ?_ ?_
 ·intro aT k s hk hm
  have aM:aT≠p.block:=by
   intro e;rw [e,ho] at hk;cases hk
   exact hc.sY hm
  exact ⟨sZ aT aM,rfl⟩
 exact ⟨p,bs,hp,ho,by simp [aP],hs,hl⟩
theorem JB {N:Nat} {dst:Option Tmp} {cl:Call} {ty:TypeId} {pos:String} {gK:Array Edge} {gd:Option (Nat × Bool)} {t tx e:TypeId} {b o m k n:Nat} {cs:List AV} {ys:List (List AV)} {r:aC} {h h':af} {a:Act} {w:World} {u uy:Value} {news:List Value} {K:AV->af->Prop} {next:Act->World->Prop} {Q:Exit->Act->World->Prop}
  (hc:bK N X g0 r h a w) (bo:P.underlying t=some (.slice e)) (hk:k=P.cellsOf e) (cW:1<=P.cellsOf e) (hu:cP b (.vec cs) b (.vec (dn cs o ys.flatten)) h h') (h1:ae ⟨g0,live X h,w⟩ (.aQ b o m k) u)
  (cU:cl.callee=.builtin .copy) (cK:cl.argTypes.toList=[t,tx]) (e1:List.map a.eval cl.args.toList=[u,uy]) (hle:o+ys.flatten.length<=cs.length) (mP:0<m)
  (hK:K (.int .i64 ys.length) h') (hn:mO X g0 h w K dst a next) (yZ:ys.length=min n m) (hlen:∀ w',(Builtin.lenOf uy).run P w'=.ok n w')
  (jv:∀ w':World,w'.heap=w.heap->(Builtin.firstCells (P.cellsOf e) ys.length uy).run P w'=.ok news.toArray w') (cJ:au ⟨g0,live X h,w⟩ ys.flatten news) (vu:∀ v∈news,v.oneCell'=true) :
  (⟨dst,.call cl,ty,pos,gK,gd⟩:Oper).wp P a w next Q:=by
 obtain ⟨l1,l2,rfl,rfl⟩:=cP.split hu;obtain ⟨p,cap,x1,x2,rfl,x3,x4,x5,x6,_⟩:=h1.BF mP;simp only at x1;obtain ⟨q,cc,tt,p1,p2,p3,p4,p5,p6⟩:=FF (o:=o) hc.cw hle cJ vu;rw [x1] at p1;cases p1
 refine ep (u:=goInt ys.length) (w':=w.setCells p.block (p.off+o) news) ?_ (hn (.int .i64 ys.length) _ g0 _ _ hK p5 (by
  rw [ae];refine ⟨rfl,?_⟩;unfold aq at x4;simp [IntKind.has,IntKind.min,IntKind.max,IntKind.signed,IntKind.bits];omega) p6)
 have h1:cl.args.map a.eval=#[.slice (some ⟨p.block,p.off+o,none⟩) m cap,uy]:=by rw [<- Array.toList_inj];simpa using e1
 have h2:cl.argTypes=#[t,tx]:=by rw [<- Array.toList_inj];simpa using cK
 have ax:=run_storeCells_cells (P:=P) p.block (p.off+o) news 0 w
  (fun j hj=>by
    simp only [Nat.add_zero];rw [cell_of_row w p.block (p.off+o+j) cc tt _ p3];have:p.off+o+j<cc.size:=(by omega);simp [this])
  (fun j hj=>frozen_of_row w p.block _ cc tt p3) vu
 simp only [Nat.add_zero] at ax
 obtain ⟨i,hi,vw⟩:∃ i,P.info? e=some i/\i.size=P.cellsOf e:=by
  cases hi:P.info? e with
  | none=>simp [Program.cellsOf,hi] at cW
  | some i=>exact ⟨i,rfl,by simp [Program.cellsOf,hi]⟩
 have JC:(Builtin.copy_ #[t,tx] ty #[.slice (some ⟨p.block,p.off+o,none⟩) m cap,uy]).run P w=.ok (goInt ys.length) (w.setCells p.block (p.off+o) news):=by have hf:=jv w rfl;simp only [Builtin.copy_,List.getElem?_toArray,List.getElem?_cons_zero,List.getElem?_cons_succ,Sem.run_bind,cB bo,Result.andThen_ok,hlen,sizeOf,typeInfo,run_program,hi,vw];have JD:Nat.min n m=ys.length:=yZ.symm;simp only [JD,Sem.run_pure,Result.andThen_ok,vw,hf,ax]
 simp [execOp,resolve,cU,invoke,builtin,h1,h2,JC]
theorem VV {c:Cx} {b2 o2 n2 k2 m:Nat} {u2:Value} (h2:ae c (.aQ b2 o2 n2 k2) u2):(∀ w',(Builtin.lenOf u2).run P w'=.ok n2 w') /\
  ∃ rM,ae c (.aQ b2 o2 (min n2 m) k2) rM/\(∀ c j,Builtin.firstCells c j u2=Builtin.firstCells c j rM):=by
 rw [ae] at h2;obtain ⟨p,cap,o',x1,x2,rfl,x3,x4,x5,x6,x7,x8⟩:=h2;refine ⟨fun w'=>by simp [Builtin.lenOf],.slice (some ⟨p.block,p.off+o',none⟩) (min n2 m) cap,?_,fun c j=>rfl⟩;rw [ae];exact ⟨p,cap,o',x1,x2,rfl,by omega,by omega,x5,x6,x7,x8⟩
theorem OQ {c:Cx} {b2 o2 n2 c2 k2 m:Nat} {u2:Value} (h2:ae c (.eO b2 o2 n2 c2 k2) u2):(∀ w',(Builtin.lenOf u2).run P w'=.ok n2 w') /\
  ∃ rM,ae c (.aQ b2 o2 (min n2 m) k2) rM/\(∀ c j,Builtin.firstCells c j u2=Builtin.firstCells c j rM):=by
 rw [ae] at h2;obtain ⟨p,x1,x2,rfl,x3,x4,x5,x6,x8⟩:=h2;refine ⟨fun w'=>by simp [Builtin.lenOf],.slice (some ⟨p.block,p.off+o2,none⟩) (min n2 m) c2,?_,fun c j=>rfl⟩;rw [ae];exact ⟨p,c2,o2,x1,x2,rfl,by omega,by omega,x5,x6,fun _=>rfl,x8⟩
theorem OR {N:Nat} {dst:Option Tmp} {cl:Call} {ty:TypeId} {pos:String} {gK:Array Edge} {gd:Option (Nat × Bool)} {t tx e:TypeId} {b o m k n c:Nat} {cs:List AV} {ys:List (List AV)} {r:aC} {h h':af} {a:Act} {w:World} {u uy:Value} {news:List Value} {K:AV->af->Prop} {next:Act->World->Prop} {Q:Exit->Act->World->Prop}
  (hc:bK N X g0 r h a w) (bo:P.underlying t=some (.slice e)) (hk:k=P.cellsOf e) (cW:1<=P.cellsOf e) (hu:cP b (.vec cs) b (.vec (dn cs o ys.flatten)) h h') (h1:ae ⟨g0,live X h,w⟩ (.eO b o m c k) u)
  (cU:cl.callee=.builtin .copy) (cK:cl.argTypes.toList=[t,tx]) (e1:List.map a.eval cl.args.toList=[u,uy]) (hle:o<=cs.length) (CK:ys.flatten.length<=m*k)
  (hK:K (.int .i64 ys.length) h') (hn:mO X g0 h w K dst a next) (yZ:ys.length=min n m) (hlen:∀ w',(Builtin.lenOf uy).run P w'=.ok n w')
  (jv:∀ w':World,w'.heap=w.heap->(Builtin.firstCells (P.cellsOf e) ys.length uy).run P w'=.ok news.toArray w') (cJ:au ⟨g0,live X h,w⟩ ys.flatten news) (vu:∀ v∈news,v.oneCell'=true) :
  (⟨dst,.call cl,ty,pos,gK,gd⟩:Oper).wp P a w next Q:=by
 obtain ⟨l1,l2,rfl,rfl⟩:=cP.split hu;rw [ae] at h1;obtain ⟨p,x1,x2,rfl,x3,x4,x5,x6,x7⟩:=h1;simp only at x1 x6;obtain ⟨ax,_,p5,p6⟩:=VO (P:=P) (o:=o) hc.cw x1 x6 hle (by have:=Nat.mul_le_mul_right k x3;omega) cJ vu
 refine ep (u:=goInt ys.length) (w':=w.setCells p.block (p.off+o) news) ?_ (hn (.int .i64 ys.length) _ g0 _ _ hK p5 (by
  rw [ae];refine ⟨rfl,?_⟩;unfold aq at x4;simp [IntKind.has,IntKind.min,IntKind.max,IntKind.signed,IntKind.bits];omega) p6)
 have h1:cl.args.map a.eval=#[.slice (some ⟨p.block,p.off+o,none⟩) m c,uy]:=by rw [<- Array.toList_inj];simpa using e1
 have h2:cl.argTypes=#[t,tx]:=by rw [<- Array.toList_inj];simpa using cK
 obtain ⟨i,hi,vw⟩:∃ i,P.info? e=some i/\i.size=P.cellsOf e:=by
  cases hi:P.info? e with
  | none=>simp [Program.cellsOf,hi] at cW
  | some i=>exact ⟨i,rfl,by simp [Program.cellsOf,hi]⟩
 have JC:(Builtin.copy_ #[t,tx] ty #[.slice (some ⟨p.block,p.off+o,none⟩) m c,uy]).run P w=.ok (goInt ys.length) (w.setCells p.block (p.off+o) news):=by have hf:=jv w rfl;simp only [Builtin.copy_,List.getElem?_toArray,List.getElem?_cons_zero,List.getElem?_cons_succ,Sem.run_bind,cB bo,Result.andThen_ok,hlen,sizeOf,typeInfo,run_program,hi,vw];have JD:Nat.min n m=ys.length:=yZ.symm;simp only [JD,Sem.run_pure,Result.andThen_ok,vw,hf,ax]
 simp [execOp,resolve,cU,invoke,builtin,h1,h2,JC]
theorem CU {o:Oper} {K:AV->af->Prop} {next:Act->World->Prop} {Q:Exit->Act->World->Prop}
  (hq:cy P r h K o.op) (hc:bK n X g0 r h a w) (hn:mO X g0 h w K o.dst a next):o.wp P a w next Q:=by
 have cq:dj a []:=fun e he=>by cases he
 obtain ⟨dst,op,ty,pos,gK,gd⟩:=o;simp only at hq hn;cases op
 case binOp op t x y yt=>
  cases op<;>try (simp [cy] at hq;done)
  simp only [cy] at hq;cases hx:aL r [] x with
  | none=>simp [hx] at hq
  | some u=>
    cases u<;>try (simp [hx] at hq;done)
    rename_i k1 a1;cases k1<;>try (simp [hx] at hq;done)
    simp only [hx] at hq;cases hy:aL r [] y with
    | none=>simp [hy] at hq
    | some v=>
      cases v<;>try (simp [hy] at hq;done)
      rename_i k2 a2;cases k2<;>try (simp [hy] at hq;done)
      simp only [hy] at hq;have hu:=hc.aL cq hx;have hv:=hc.aL cq hy;rw [ae] at hu hv;obtain ⟨hu,_⟩:=hu;obtain ⟨hv,_⟩:=hv;refine ep (u:=.int .i64 (IntKind.i64.wrap (a1+a2))) (w':=w) ?_ (hn _ _ g0 _ _ hq hc.cw ?_ (Step.refl _ _ _ _))
      ·simp [execOp,hu,hv,fp,binOp,Op.intArith]
      rw [ae];refine ⟨rfl,?_⟩;constructor<;>simp [IntKind.min,IntKind.max,IntKind.wrap,IntKind.signed,IntKind.bits]<;>(try split)<;>omega
 case box t x=>
  simp only [cy] at hq;cases hx:aL r [] x with
  | none=>simp [hx] at hq
  | some v=>
    simp only [hx] at hq;cases hv:qc v with
    | none=>simp [hv] at hq
    | some l=>
      simp only [hv] at hq;split at hq
      ·have hr:=hc.aL cq hx;obtain ⟨h1,h2⟩:=Ak hv hr;obtain ⟨k,g',k1,k2,k3⟩:=hc.cw.CS t h1 h2;refine ep (u:=.pointer (some ⟨w.heap.size,0,none⟩)) (w':=w.alloc (.cells (a.eval x).cells t)) ?_ (hn _ _ g' _ _ (hq k) k2 ?_ k3)
       ·simp [execOp,Instr.box,newVar,newRow]
       rw [ae];exact ⟨_,k1,rfl,rfl⟩
      exact hq.elim
 case alloc t=>
  simp only [cy] at hq;cases hz:iQ P t with
  | none=>simp [hz] at hq
  | some z=>
    simp only [hz] at hq;obtain ⟨i,zv,hi,fT,eZ,eC⟩:=nr (c:=⟨g0,live X h,w⟩) hz;obtain ⟨k,g',k1,k2,k3⟩:=hc.cw.CS t eZ eC;refine ep (u:=.pointer (some ⟨w.heap.size,0,none⟩)) (w':=w.alloc (.cells zv.cells t)) ?_ (hn _ _ g' _ _ (hq k) k2 ?_ k3)
    ·simp [execOp,Instr.alloc,newVar,newRow,zeroValue,typeInfo,hi,fT]
    rw [ae];exact ⟨_,k1,rfl,rfl⟩
 case store t x y=>
  simp only [cy] at hq;cases hx:aL r [] x with
  | none=>simp [hx] at hq
  | some vx=>
    have gw:=hc.aL cq hx;cases vx<;>try (simp [hx] at hq;done)
    rename_i b rA;simp only [hx] at hq;cases hy:aL r [] y with
    | none=>simp [hy] at hq
    | some v=>
      simp only [hy] at hq;cases hv:qc v with
      | none=>simp [hv] at hq
      | some l=>
        simp only [hv] at hq;split at hq<;>try contradiction
        rename_i hlen;have hlen:=Nat.eq_of_beq_eq_true hlen;obtain ⟨cs,h',hu,⟨eb,hle⟩,hK⟩:=hq;obtain ⟨l1,l2,rfl,rfl⟩:=cP.split hu;obtain ⟨r1,r2⟩:=Ak hv (hc.aL cq hy);obtain ⟨p,cc,tt,p1,p2,p3,p4,p5,p6⟩:=FF hc.cw hle r1 (by intro u hu;exact r2 u (by simpa using hu));rw [ae] at gw;obtain ⟨p',q1,q2,q3⟩:=gw;simp only at q1;rw [p1] at q1;cases q1
        have FL:=r1.length;simp at FL;refine EF (w':=w.setCells p.block (p.off+rA) (a.eval y).cells.toList) ?_ (hn .unit _ g0 _ _ hK p5 (by simp [ae]) p6);have:=OF (P:=P) (w:=w) (t:=t) (b:=p.block) (o:=p.off+rA) (u:=a.eval y) (by omega) (by omega) p3 (by simp at p4;omega) r2;simp [execOp,q3,this]
 case makeMap t rr=>
  cases rr with
  | some _=>simp [cy] at hq
  | none=>
    simp only [cy] at hq;obtain ⟨k,f1,f2,st,mk⟩:=hc.cw.newAt (.map #[] 0) 0;refine ep (u:=.map (some w.heap.size)) (w':=w.alloc (.map #[] 0)) ?_ (hn _ _ _ _ _ (hq k) (mk (.map []) ?_) ?_ (st _))
    ·have hm:(Instr.makeMap t none).run P w=.ok (.map (some w.heap.size)) (w.alloc (.map #[] 0)):=rfl;simp only [execOp,Option.map_none,hm,Sem.run_bind,Result.andThen,Sem.run_pure]
    ·exact ⟨⟨w.heap.size,0,none⟩,0,#[],by simp [Gh.set],by simp [Gh.set],heap_alloc_new w _,rfl,by simp,by simp⟩
    rw [ae];exact ⟨⟨w.heap.size,0,none⟩,by simp [Gh.set],rfl⟩
 case mapUpdate t m k x=>
  simp only [cy] at hq;split at hq<;>try contradiction
  rename_i kt et bc;split at hq<;>try contradiction
  rename_i b hm;split at hq<;>try contradiction
  rename_i kv hk;split at hq<;>try contradiction
  rename_i v hv;obtain ⟨es,h',hu,⟨iE,lz⟩,hK⟩:=hq;obtain ⟨l1,l2,rfl,rfl⟩:=cP.split hu;have CV:=hc.aL cq hm;have rB:=hc.aL cq hk;have np:=hc.aL cq hv;rw [ae] at CV;obtain ⟨p,hp,fD⟩:=CV;obtain ⟨p',cl,aj,o1,o2,o3,o4,o5,o6⟩:=hc.cw.obj b (.map es) (by simp);simp only at o1 o2 o3;rw [hp] at o1;cases o1
  have ga:=HT (P:=P) (w:=w) iE rB false 9998;cases hg:rn P kt kv es with
  | none=>exact absurd hg lz
  | some r0=>
    obtain ⟨res,r1,r2⟩:=EK (P:=P) (w:=w) iE rB o4 hg;cases r0 with
    | none=>
      obtain ⟨rfl,ju⟩:=r2
      obtain ⟨s1,s2,s3⟩:=ON (P:=P) (te:=pk P kt kv v es) (eF:=aj.push { key:=a.eval k,val:=a.eval x,born:=cl }) (uw:=cl+1) hc.cw hp o2 o3
       (by rw [ju v,Array.toList_push];exact eP.append o4 rB np)
       (by
         intro y hy;rw [Array.toList_push] at hy;rcases List.mem_append.1 hy with hy|hy
         ·have:=o5 y hy;omega
         simp at hy;subst hy;simp)
       (by
         rw [Array.toList_push,List.map_append,List.nodup_append];refine ⟨o6,by simp,?_⟩;intro q hq z hz e;simp at hz;subst hz;obtain ⟨y,hy,rfl⟩:=List.mem_map.1 hq;have:=o5 y hy;omega)
      refine EF (w':={ w with heap:=w.heap.setIfInBounds p.block (.map (aj.push { key:=a.eval k,val:=a.eval x,born:=cl }) (cl+1)) }) ?_ (hn .unit _ g0 _ _ hK s2 (by simp [ae]) s3);have qG:(getObj p.block).run P w=.ok (.map aj cl) w:=(by simp [getObj,Sem.run,o3]);simp only [execOp,fD,Instr.mapUpdate,Sem.run_bind,cB bc,Result.andThen_ok,qG,ga,r1,s1,Sem.run_pure]
    | some v0=>
      obtain ⟨j,e,rfl,q2,q3,q4,q5⟩:=r2;have OS:=VT aj.toList j (a.eval k) (a.eval x)
      obtain ⟨s1,s2,s3⟩:=ON (P:=P) (te:=pk P kt kv v es) (eF:=aj.modify j fun e=>{ e with key:=a.eval k,val:=a.eval x }) (uw:=cl) hc.cw hp o2 o3
       (q5 v (a.eval x) np)
       (by
         intro y hy;rw [Array.toList_modify] at hy;have VW:y.born∈aj.toList.map (·.born):=by rw [<- OS];exact List.mem_map.2 ⟨y,hy,rfl⟩
         obtain ⟨z,hz,e⟩:=List.mem_map.1 VW;have:=o5 z hz;omega)
       (by rw [Array.toList_modify,OS];exact o6)
      refine EF (w':={ w with heap:=w.heap.setIfInBounds p.block (.map (aj.modify j fun e=>{ e with key:=a.eval k,val:=a.eval x }) cl) }) ?_ (hn .unit _ g0 _ _ hK s2 (by simp [ae]) s3);have qG:(getObj p.block).run P w=.ok (.map aj cl) w:=(by simp [getObj,Sem.run,o3]);have VX:(Instr.keyThatStays e.key (a.eval k)).run P w=.ok (a.eval k) w:=(by simp [Instr.keyThatStays,q4]);simp only [execOp,fD,Instr.mapUpdate,Sem.run_bind,cB bc,Result.andThen_ok,qG,ga,r1,q2,Option.map_some,Option.getD_some,VX,s1,Sem.run_pure]
 case range t x=>
  simp only [cy] at hq;split at hq<;>try contradiction
  ·rename_i kt et bc;split at hq<;>try contradiction
   rename_i m hm;obtain ⟨es,cH,hK⟩:=hq;have CV:=hc.aL cq hm;rw [ae] at CV;obtain ⟨p,hp,fD⟩:=CV;obtain ⟨l1,l2,rfl⟩:=List.append_of_mem cH;obtain ⟨p',bs,cl,aj,o1,o2,o3,o4,o5,o6⟩:=VI hc.cw;simp only at hp;rw [hp] at o3;cases o3
   obtain ⟨h',hu,hK⟩:=hK bs cl ⟨o1,o2⟩;have hh:h'=l1++(m,.uP es bs cl)::l2:=by obtain ⟨m1,m2,e1,rfl⟩:=cP.split hu;have ew:=hc.cw.nodup;obtain ⟨rfl,rfl⟩:=Jv ew e1;rfl
   subst hh;obtain ⟨it,f1,f2,st,mk⟩:=o5.newAt (.mapIter (some p.block) cl #[] cl) 0;refine ep (u:=.pointer (some ⟨w.heap.size,0,none⟩)) (w':=w.alloc (.mapIter (some p.block) cl #[] cl)) ?_ (hn _ _ _ _ _ (hK it) (mk _ ?_) ?_ (o6.trans hc.cw.own (st _)))
   ·have bu:=run_range_map (P:=P) w t kt et p.block aj cl bc o4;simp only [execOp,fD,bu,Sem.run_bind,Result.andThen,Sem.run_pure]
   ·have aM:m≠it:=fun e=>f1 (by rw [<- e,iZ];exact .inl rfl);exact ⟨⟨w.heap.size,0,none⟩,p,#[],by simp [Gh.set],by simp [Gh.set],heap_alloc_new w _,by simp [Gh.set,aM,hp],rfl⟩
   rw [ae];exact ⟨⟨w.heap.size,0,none⟩,by simp [Gh.set],rfl⟩
  rename_i bc;split at hq<;>try contradiction
  rename_i s hx;have gw:=hc.aL cq hx;rw [ae] at gw;obtain ⟨bs,rN,za,fl⟩:=gw;obtain ⟨it,f1,f2,st,mk⟩:=hc.cw.newAt (.stringIter bs 0) 0;refine ep (u:=.pointer (some ⟨w.heap.size,0,none⟩)) (w':=w.alloc (.stringIter bs 0)) ?_ (hn _ _ _ _ _ (hq it) (mk _ ?_) ?_ (st _))
  ·have bu:(Instr.range t (.string bs)).run P w=.ok (.pointer (some ⟨w.heap.size,0,none⟩)) (w.alloc (.stringIter bs 0)):=by
    simp only [Instr.range,Sem.run_bind,cB bc,Result.andThen_ok,Sem.run_pure];rfl
   simp only [execOp,rN,bu,Sem.run_bind,Result.andThen,Sem.run_pure]
  ·exact ⟨⟨w.heap.size,0,none⟩,bs,by simp [Gh.set],by simp [Gh.set],heap_alloc_new w _,za,fl⟩
  rw [ae];exact ⟨⟨w.heap.size,0,none⟩,by simp [Gh.set],rfl⟩
 case next x sb=>
  cases sb with
  | true=>
    simp only [cy] at hq;split at hq<;>try contradiction
    rename_i it hx;obtain ⟨s,pos,cH,xg,qG⟩:=hq;have gw:=hc.aL cq hx;rw [ae] at gw;obtain ⟨p,hp,rN⟩:=gw;obtain ⟨p',bs,i1,i2,i3,i4,i5⟩:=hc.cw.obj it _ cH;simp only at i1 hp i2 i3;rw [hp] at i1;cases i1
    have iB:bs.size=s.length:=by rw [<- i4];rfl
    have za:bs=⟨s.toArray⟩:=(by rw [<- i4]);by_cases eb:pos<s.length
    ·obtain ⟨h',hu,hK⟩:=qG eb;obtain ⟨l1,l2,rfl,rfl⟩:=cP.split hu;have OT:Utf8.decode bs pos=kI s pos:=by rw [za];rfl
     obtain ⟨s1,s2,s3⟩:=VU (P:=P) (pos':=pos+(kI s pos).2) hc.cw hp i2 i3 i4 i5;refine ep (u:=.tuple #[.bool true,goInt pos,.int .i32 (kI s pos).1]) (w':={ w with heap:=w.heap.setIfInBounds p.block (.stringIter bs (pos+(kI s pos).2)) }) ?_ (hn _ _ g0 _ _ hK s2 ?_ s3)
     ·have bu:(Instr.next (.pointer (some ⟨p.block,0,none⟩)) true ty).run P w=.ok (.tuple #[.bool true,goInt pos,.int .i32 (kI s pos).1]) { w with heap:=w.heap.setIfInBounds p.block (.stringIter bs (pos+(kI s pos).2)) }:=by
       simp only [Instr.next,Sem.run_bind,OP i3,Result.andThen_ok,iB,eb,if_true,OT,s1,Sem.run_pure]
      simp only [execOp,rN,bu,Sem.run_bind,Result.andThen,Sem.run_pure]
     rw [ae];refine ⟨_,rfl,?_⟩;simp only [au];refine ⟨_,_,rfl,by rw [ae],_,_,rfl,by rw [ae];exact ⟨rfl,wz (by omega)⟩,_,_,rfl,?_,rfl⟩;rw [ae];refine ⟨rfl,?_⟩;have:=decode_le bs pos;rw [OT] at this;constructor<;>simp [IntKind.min,IntKind.max,IntKind.signed,IntKind.bits]<;>omega
    have hK:=xg (by omega);refine ep (u:=.tuple #[.bool false]) (w':=w) ?_ (hn _ _ g0 _ _ hK hc.cw ?_ (Step.refl _ _ _ _))
    ·have bu:(Instr.next (.pointer (some ⟨p.block,0,none⟩)) true ty).run P w=.ok (.tuple #[.bool false]) w:=by
      simp only [Instr.next,Sem.run_bind,OP i3,Result.andThen_ok,iB,eb,if_false,Sem.run_pure]
     simp only [execOp,rN,bu,Sem.run_bind,Result.andThen,Sem.run_pure]
    rw [ae];refine ⟨_,rfl,?_⟩;simp only [au];exact ⟨_,_,rfl,by rw [ae],rfl⟩
  | false=>
    simp only [cy] at hq;split at hq<;>try contradiction
    rename_i it hx;obtain ⟨m,cl,seen,es,bs,cH,yZ,xg,qG⟩:=hq;have gw:=hc.aL cq hx;rw [ae] at gw;obtain ⟨p,hp,rN⟩:=gw;obtain ⟨p',pm,sa,i1,i2,i3,i4,i5⟩:=hc.cw.obj it _ cH;obtain ⟨VY,aj,m1,m2,m3,m4,m5,m6,m7⟩:=hc.cw.obj m _ yZ;simp only at hp i1 i2 i3 i4 m1 m2 m3;rw [hp] at i1;cases i1
    rw [i4] at m1;cases m1
    rcases run_next_any (P:=P) (w:=w) ty p.block pm.block cl sa aj i3 m3 m5 with ⟨h0,bu⟩|⟨e,he,w1,il,bu⟩
    ·refine ep (u:=.tuple #[.bool false]) (w':=w) ?_ (hn _ _ g0 _ _ (xg ?_) hc.cw ?_ (Step.refl _ _ _ _))
     ·simp only [execOp,rN,bu,Sem.run_bind,Result.andThen,Sem.run_pure]
     ·intro b hb;rw [<- m7] at hb;obtain ⟨e,he,rfl⟩:=List.mem_map.1 hb;rw [<- i5];cases OU:sa.contains e.born with
      | true=>simpa using OU
      | false=>
        have:e∈(leftOf aj sa).toList:=by unfold leftOf;rw [Array.mem_toList_iff,Array.mem_filter];exact ⟨Array.mem_toList_iff.1 he,by rw [OU];rfl⟩
        rw [show leftOf aj sa=#[] by simpa using h0] at this;simp at this
     rw [ae];exact ⟨#[.bool false],rfl,by simp [au,ae]⟩
    obtain ⟨VZ,tf⟩:=mem_left he;obtain ⟨i,hi⟩:=List.getElem?_of_mem VZ;have wR:bs[i]?=some e.born:=by rw [<- m7,List.getElem?_map,hi];rfl
    have aP:i<es.length:=by rw [eP.len m4];exact (List.getElem?_eq_some_iff.1 hi).1
    obtain ⟨x0,lJ⟩:∃ x0,es[i]?=some x0:=⟨_,List.getElem?_eq_getElem aP⟩;obtain ⟨e',q1,q2,q3⟩:=eP.get m4 lJ;rw [hi] at q1;cases q1
    obtain ⟨h',hu,hK⟩:=qG i e.born x0 wR lJ (by rw [<- i5];intro hm;have:sa.contains e.born=true:=(by simpa using hm);rw [tf] at this;cases this);obtain ⟨l1,l2,rfl,rfl⟩:=cP.split hu;obtain ⟨s1,s2⟩:=VJ (yX:=sa.push e.born) (CT:=seen++[e.born]) hc.cw il hp i2 i3 i4 (by simp [i5]);refine ep (u:=.tuple #[.bool true,e.key,e.val]) (w':={ w1 with heap:=w1.heap.setIfInBounds p.block (.mapIter (some pm.block) cl (sa.push e.born) cl) }) ?_ (hn _ _ g0 _ _ hK s1 ?_ s2)
    ·simp only [execOp,rN,bu,Sem.run_bind,Result.andThen,Sem.run_pure]
    rw [ae];refine ⟨_,rfl,?_⟩;simp only [au];exact ⟨_,_,rfl,by simp [ae],_,_,rfl,ae.mono (Step.le s2) _ _ q2,_,_,rfl,ae.mono (Step.le s2) _ _ q3,rfl⟩
 case entry x=>
  simp only [cy] at hq;split at hq<;>try contradiction
  rename_i it hx;obtain ⟨m,cl,seen,es,bs,cH,yZ,i,b,x0,s0,rfl,wR,lJ,hK⟩:=hq;have gw:=hc.aL cq hx;rw [ae] at gw;obtain ⟨p,hp,rN⟩:=gw;obtain ⟨p',pm,sa,i1,i2,i3,i4,i5⟩:=hc.cw.obj it _ cH;obtain ⟨VY,aj,m1,m2,m3,m4,m5,m6,m7⟩:=hc.cw.obj m _ yZ;simp only at hp i1 i2 i3 i4 m1 m2 m3;rw [hp] at i1;cases i1
  rw [i4] at m1;cases m1
  obtain ⟨e,q1,q2,q3⟩:=eP.get m4 lJ;have FM:e.born=b:=by rw [<- m7,List.getElem?_map,q1] at wR;simpa using wR
  have Wa:sa.back?=some e.born:=by rw [FM,<- Array.getLast?_toList,i5];simp
  have bu:=VL (P:=P) (w:=w) p.block pm.block cl cl sa aj e i3 m3 Wa (List.mem_of_getElem? q1) m6;refine ep (u:=.tuple #[e.key,e.val]) (w':=w) ?_ (hn _ _ g0 _ _ hK hc.cw ?_ (Step.refl _ _ _ _))
  ·simp only [execOp,rN,bu,Sem.run_bind,Result.andThen,Sem.run_pure]
  rw [ae];refine ⟨_,rfl,?_⟩;simp only [au];exact ⟨_,_,rfl,q2,_,_,rfl,q3,rfl⟩
 case makeSlice t x y=>
  simp only [cy] at hq;cases bo:P.underlying t with
  | none=>simp [bo] at hq
  | some d=>
  cases d<;>try (simp [bo] at hq;done)
  rename_i e;simp only [bo] at hq;cases hx:aL r [] x with
  | none=>simp [hx] at hq
  | some vx=>
  have gw:=hc.aL cq hx;cases vx<;>try (simp [hx] at hq;done)
  rename_i kx m;simp only [hx] at hq;cases hy:aL r [] y with
  | none=>simp [hy] at hq
  | some vy=>
  have BS:=hc.aL cq hy;cases vy<;>try (simp [hy] at hq;done)
  rename_i ky m';simp only [hy] at hq;cases hz:iQ P e with
  | none=>simp [hz] at hq
  | some z=>
  simp only [hz] at hq;split at hq<;>try contradiction
  rename_i q1;split at hq<;>try contradiction
  rename_i q2;split at hq<;>try contradiction
  rename_i q3;have q1:=Nat.eq_of_beq_eq_true q1;have q2:=Nat.le_of_ble_eq_true q2;have q3:=Nat.le_of_ble_eq_true q3;obtain ⟨⟨rfl,q4,q5⟩,hK⟩:=hq;obtain ⟨i,zv,hi,fT,eZ,eC⟩:=nr (c:=⟨g0,live X h,w⟩) hz;have fV:i.size=P.cellsOf e:=(by simp [Program.cellsOf,hi]);have uq:i.bytes=P.bytesOf e:=(by simp [Program.bytesOf,hi]);have iD:zv.cells.size=z.length:=by have:=eZ.length;simpa using this
  rw [ae] at gw BS;obtain ⟨m,rfl⟩:=Int.eq_ofNat_of_zero_le q4;have Wb:(i.bytes:Int)*(m:Int)<=281474976710656:=by have h1:i.bytes*m<=4096*4294967296:=Nat.mul_le_mul (by omega) (by omega);have h2:((i.bytes*m:Nat):Int)<=281474976710656:=(by omega);rwa [Int.natCast_mul] at h2
  have bu:=run_make (P:=P) w t e i zv bo hi fT kx ky (m:Int) (m:Int) q4 (Int.le_refl _) Wb (by omega);simp only [Int.toNat_natCast] at bu hK;have OV:(madeCells zv.cells (m*i.size)).toList=(List.replicate m zv.cells.toList).flatten:=by rw [fV,<- q1,<- iD];exact FH zv.cells (by omega) m
  have cJ:=au.FI eZ m;rw [<- OV] at cJ
  obtain ⟨k,g',k1,k2,k3⟩:=hc.cw.CS e cJ (by
   intro u hu;have:u∈(List.replicate m zv.cells.toList).flatten:=by rw [<- OV];simpa using hu
   simp only [List.mem_flatten,List.mem_replicate] at this;obtain ⟨l,⟨_,rfl⟩,hu⟩:=this;exact eC u (by simpa using hu))
  refine ep (w':=w.alloc (.cells (madeCells zv.cells (m*i.size)) e)) (u:=.slice (some ⟨w.heap.size,0,none⟩) m m) ?_ (hn _ _ g' _ _ (hK k) k2 ?_ k3)
  ·simp only [execOp,gw.1,BS.1,bu,Sem.run_bind,Result.andThen,Sem.run_pure]
  rw [ae];refine ⟨_,m,0,k1,rfl,rfl,Nat.le_refl _,by unfold aq;omega,by omega,?_,fun _=>rfl,by unfold pf;omega⟩;refine ⟨_,_,_,heap_alloc_new w _,?_⟩;simp [size_madeCells,fV,q1]
 case buildSlice t m parts=>
  simp only [cy] at hq;cases bo:P.underlying t with
  | none=>simp [bo] at hq
  | some d=>
  cases d<;>try (simp [bo] at hq;done)
  rename_i e;simp only [bo] at hq;cases hl:iA r [] (P.cellsOf e) 0 parts.toList with
  | none=>simp [hl] at hq
  | some l=>
  simp only [hl] at hq;split at hq<;>try contradiction
  rename_i q1;split at hq<;>try contradiction
  rename_i q2;split at hq<;>try contradiction
  rename_i q3;cases hz:iQ P e with
  | none=>simp [hz] at hq
  | some z=>
  simp only [hz] at hq;split at hq<;>try contradiction
  rename_i q4;have q1:=Nat.eq_of_beq_eq_true q1;have q2:=Nat.le_of_ble_eq_true q2;have q3:=Nat.le_of_ble_eq_true q3;have q4:=Nat.eq_of_beq_eq_true q4;obtain ⟨ie,zv,bw,fT,eZ,uY⟩:=nr (c:=⟨g0,live X h,w⟩) hz;have iB:ie.size=P.cellsOf e:=(by simp [Program.cellsOf,bw]);have iD:zv.cells.size=P.cellsOf e:=by have:=eZ.length;simp at this;omega
  have BR:∀ u∈(Array.range (m*P.cellsOf e)).map (zv.cells[· % zv.cells.size]!),u.oneCell'=true:=by intro u hu;obtain ⟨j,hj,rfl⟩:=Array.mem_map.1 hu;have aP:j % zv.cells.size<zv.cells.size:=Nat.mod_lt _ (by omega);rw [getElem!_pos zv.cells _ aP];exact uY _ (Array.getElem_mem _)
  by_cases hm:m=0
  ·subst hm;have dw:l=[]:=List.eq_nil_of_length_eq_zero q1;subst dw
   have iC:parts.toList=[]:=by
    cases hh:parts.toList with
    | nil=>rfl
    | cons q qs=>
      rw [hh] at hl;obtain ⟨i0,x0⟩:=q;unfold iA at hl
      (repeat' split at hl)<;>simp_all
   have ft:parts=#[]:=(by simpa using iC);obtain ⟨c1,c2⟩:=hc.cw.alloc (.cells #[] e);obtain ⟨q,c3,c4⟩:=c1.FG;refine ep (u:=.slice (some ⟨w.heap.size,0,none⟩) 0 0) (w':=w.alloc (.cells #[] e)) ?_ (hn _ _ g0 _ _ (hq q) c3 ?_ (c2.trans hc.cw.own c4))
   ·have e0:(Array.map (fun _=>(default:Value)) (Array.range 0))=#[]:=(by simp [Array.range]);simp [execOp,Instr.buildSlice,cB bo,px bw,ft,Instr.fill,newRow,e0]
   simp only [ae];exact ⟨_,0,rfl,by simp,by simp,by omega,by simp,by simp,by simp [cj],fun _ _=>.inl rfl⟩
  obtain ⟨res,us,e1,e2,e3,e4,e5,e6,e7⟩:=EO hc cq hl ((Array.range (m*P.cellsOf e)).map (zv.cells[· % zv.cells.size]!))
   (by
     have:∀ (ps:List (Nat × Operand)) (k:Nat) (l:List (List AV)),iA r [] (P.cellsOf e) k ps=some l->l.length=ps.length:=by
      intro ps;induction ps with
      | nil=>intro k l hh;simp [iA] at hh;subst hh;rfl
      | cons q qs ih=>
        intro k l hh;obtain ⟨i0,x0⟩:=q;unfold iA at hh;split at hh<;>try contradiction
        split at hh<;>try contradiction
        split at hh<;>try contradiction
        split at hh<;>try contradiction
        split at hh<;>try contradiction
        rename_i l' hr;cases hh
        simp [ih _ _ hr]
     have:=this _ _ _ hl;rw [Nat.zero_add,<- this,q1];simp) BR
  have fu:parts.toList.length=m:=(by omega);have Ng:0<m*P.cellsOf e:=Nat.mul_pos (by omega) (by omega);have wA:res.toList=us:=by rw [e6];simp only [Nat.zero_mul,List.take_zero,List.nil_append,Nat.zero_add,fu];rw [List.drop_of_length_le (by simp)];simp
  have bu:=run_buildSlice (P:=P) w t e m (parts.map fun (i,x)=>(i,a.eval x)) res ie zv bo bw fT (by rw [iB];omega) (by rw [iB];omega)
   (by rw [iB];simpa using e1)
  obtain ⟨c1,c2⟩:=hc.cw.alloc (.cells res e);obtain ⟨q,c3,c4⟩:=c1.FG;refine ep (u:=.slice (some ⟨w.heap.size,0,none⟩) m m) (w':=w.alloc (.cells res e)) ?_ (hn _ _ g0 _ _ (hq q) c3 ?_ (c2.trans hc.cw.own c4))
  ·simp [execOp,bu]
  have bT:=bC.new (t:=e) (us:=res) hc.cw (by rw [wA];exact e4) e7;simp only [ae];have Nh:m<=65536:=Nat.le_trans (Nat.le_mul_of_pos_right m (by omega)) q3;refine ⟨_,m,by rw [q1],by omega,by rw [q1];unfold aq;omega,by omega,by simp,by simp,?_,fun _ _=>.inl (by rw [q1])⟩;intro ad ha;simp at ha;subst ha;exact cj.mono (Step.le c4) _ _ _ _ (cj.flat e3 bT)
 case call cl=>
  unfold cy at hq;simp only at hq;split at hq
  ·rename_i f cU;cases hl:bQ r [] cl.args.toList with
   | none=>simp [hl] at hq
   | some l=>
   simp only [hl] at hq
   have bu:(execOp a.eval ⟨dst,.call cl,ty,pos,gK,gd⟩).run P w=(callFunc f (cl.args.map a.eval++#[])).run P w:=
    EP rfl ⟨_,cU,rfl⟩
   exact EN (us:=cl.args.map a.eval) hq hc.cw (by simpa using hc.bQ cq hl) (by simpa using bu) hn
  ·rename_i t cU;cases hx:aL r [] (.tmp t) with
   | none=>simp [hx] at hq
   | some x=>
   cases x<;>try (simp [hx] at hq;done)
   rename_i f bP;simp only [hx] at hq;cases hl:bQ r [] cl.args.toList with
   | none=>simp [hl] at hq
   | some l=>
   simp only [hl] at hq;have hr:=hc.aL cq hx;rw [ae] at hr;obtain ⟨us,yn,bd⟩:=hr
   have bu:(execOp a.eval ⟨dst,.call cl,ty,pos,gK,gd⟩).run P w=(callFunc f (cl.args.map a.eval++us)).run P w:=
    EP rfl ⟨_,cU,yn⟩
   exact EN hq hc.cw (by simpa using au.append (hc.bQ cq hl) bd) bu hn
  ·rename_i cU;split at hq<;>try contradiction
   rename_i t tx cK;split at hq<;>try contradiction
   rename_i e bo eM;split at hq<;>try contradiction
   rename_i cW;split at hq<;>try contradiction
   rename_i jN;split at hq<;>try contradiction
   rename_i z hz;split at hq<;>try contradiction
   rename_i iD;have cW:=Nat.le_of_ble_eq_true cW;have jN:=Nat.le_of_ble_eq_true jN;have iD:=Nat.eq_of_beq_eq_true iD;split at hq<;>try contradiction
   ·rename_i b2 o2 n2 k2 hl;split at hq<;>try contradiction
    rename_i bg;have bg:=Nat.eq_of_beq_eq_true bg;obtain ⟨eH,ys,cH,⟨bT,lL,gC⟩,⟨eb,dX⟩,hK⟩:=hq;have bf:=hc.bQ cq hl;simp only [au] at bf;obtain ⟨u,rr,e1,h1,u2,pG,e2,h2,h3⟩:=bf;subst e2 h3;rw [ae] at h1;subst h1;have bu:=uu (P:=P) (a:=a) (w:=w) (o:=⟨dst,.call cl,ty,pos,gK,gd⟩) (b:=#[]) rfl cU cK e1;obtain ⟨i,zv,hi,fT,eZ,eC⟩:=nr (c:=⟨g0,live X h,w⟩) hz;have fV:i.size=P.cellsOf e:=(by simp [Program.cellsOf,hi]);have uq:i.bytes=P.bytesOf e:=(by simp [Program.bytesOf,hi]);have me:zv.cells.size=P.cellsOf e:=by have:=eZ.length;simp at this;omega
    obtain ⟨news,n1,Wc,n3,n4,n5⟩:=yY (P:=P) hc.cw cH h2 bT lL gC;have gx:news.length=ys.length*k2:=by rw [n3.length,lx n4]
    have lE:=yV (P:=P) (w:=w) (ty:=ty) (i:=i) (z:=zv) (m:=ys.length) (gR:=0) (mb:=0) (base:=none) (du:=[]) bo eM hi fT n1 (by rw [fV,<- bg];exact Wc w.drew rfl)
     (by simp [Builtin.firstCells]) (by omega) (by omega) (by omega)
    refine ep (bu _ _ lE) ?_;obtain ⟨c1,s1⟩:=hc.cw.drew;have ur:=grownCap_ge w (0+ys.length) 0 e;have tc:=grownCap_le_maxLen w (0+ys.length) 0 e (by unfold maxLen;unfold aN at dX;omega)
    obtain ⟨b',g',k1,Wd,k3⟩:=c1.AI (l:=ys.flatten) (us:=[]++news) (Z:=Builtin.zeroCells zv.cells (grownCap w (0+ys.length) 0 e - (0+ys.length))) e
     (au.mono (Step.le s1) _ _ (by simpa using n3)) (by simpa using n5)
    refine hn _ _ g' _ _ (hK b') Wd ?_ (s1.trans hc.cw.own k3);rw [ae];refine ⟨_,grownCap w (0+ys.length) 0 e,0,k1,rfl,by rw [Nat.zero_add,gC];rfl,by omega,by unfold aq;unfold aN at dX;omega,by omega,?_,fun _=>rfl,by unfold pf;unfold maxLen at tc;omega⟩;refine ⟨_,_,_,heap_alloc_new w.drew _,?_⟩;simp only [Array.size_append,List.size_toArray,size_zeroCells,me,List.length_append,gx,List.length_nil];have e3:ys.length*k2+(grownCap w (0+ys.length) 0 e - (0+ys.length))*k2=grownCap w (0+ys.length) 0 e*k2:=by rw [<- Nat.add_mul];congr 1;omega
    rw [bg] at e3 ⊢;simp only [Nat.zero_add] at e3 ⊢;omega
   ·rename_i b off n' c k b2 o2 n2 k2 hl;split at hq<;>try contradiction
    rename_i hk bg;have hk:=Nat.eq_of_beq_eq_true hk;have bg:=Nat.eq_of_beq_eq_true bg;subst bg;obtain ⟨eH,ys,We,⟨Cq,lL,gC⟩,dX,cs,cH,hq⟩:=hq;have bf:=hc.bQ cq hl;simp only [au] at bf;obtain ⟨u,rr,e1,h1,u2,pG,e2,h2,h3⟩:=bf;subst e2 h3;have bu:=uu (P:=P) (a:=a) (w:=w) (o:=⟨dst,.call cl,ty,pos,gK,gd⟩) (b:=#[]) rfl cU cK e1;have uo:=yY (P:=P) hc.cw We h2 Cq lL gC;subst gC;rcases hq with ⟨jI,bT,h',hu,hK⟩|⟨hg,bT,hK⟩
    ·obtain ⟨l1,l2,rfl,rfl⟩:=cP.split hu;exact VP hc.cw bo eM cW hk bT dX jI uo h1 bu hK hn
    exact OM hc.cw cH bo eM cW jN hz iD hk bT dX hg uo h1 bu hK hn
   ·rename_i y hl;split at hq<;>try contradiction
    rename_i ys kV;obtain ⟨dX,hK⟩:=hq;have bf:=hc.bQ cq hl;simp only [au] at bf;obtain ⟨u,rr,e1,h1,u2,pG,e2,h2,h3⟩:=bf;subst e2 h3;rw [ae] at h1;subst h1;have bu:=uu (P:=P) (a:=a) (w:=w) (o:=⟨dst,.call cl,ty,pos,gK,gd⟩) (b:=#[]) rfl cU cK e1;obtain ⟨i,zv,hi,fT,eZ,eC⟩:=nr (c:=⟨g0,live X h,w⟩) hz;have fV:i.size=P.cellsOf e:=(by simp [Program.cellsOf,hi]);have uq:i.bytes=P.bytesOf e:=(by simp [Program.bytesOf,hi]);have me:zv.cells.size=P.cellsOf e:=by have:=eZ.length;simp at this;omega
    obtain ⟨news,n1,n2,n3,n4,n5⟩:=xd (c:=⟨g0,live X h,w⟩) kV h2;have gx:news.length=ys.length*P.cellsOf e:=(by rw [n3.length,lx n4]);by_cases hm:ys=[]
    ·subst hm;have gB:news=[]:=List.eq_nil_of_length_eq_zero (by rw [gx];simp);subst gB;obtain ⟨q,c1,c2⟩:=hc.cw.FG;refine ep (w':=w) (bu _ _ (AG (w':=w) (m:=0) (i:=i) bo eM hi (by simpa using n1) (by simpa [fV] using n2 w rfl) (by omega) (by simp) (fun _=>rfl))) ?_;refine hn _ _ g0 _ w (hK q) c1 ?_ c2;simp only [ae];exact ⟨none,0,by simp,by simp,by simp,by omega,by simp,by simp,by simp,fun _ _=>.inl rfl⟩
    have eb:0<ys.length:=List.length_pos_iff.2 hm
    have lE:=yV (P:=P) (w:=w) (ty:=ty) (i:=i) (z:=zv) (m:=ys.length) (gR:=0) (mb:=0) (base:=none) (du:=[]) bo eM hi fT n1 (by rw [fV];exact n2 w.drew rfl)
     (by simp [Builtin.firstCells]) (by omega) (by omega) (by omega)
    refine ep (bu _ _ lE) ?_
    have dZ:=OH (xs:=ys) (us:=news) (k:=P.cellsOf e) (e:=e)
     (cap:=grownCap w (0+ys.length) 0 e) (Z:=Builtin.zeroCells zv.cells (grownCap w (0+ys.length) 0 e - (0+ys.length)))
     hc.cw n3 n4 n5 (by omega) dX (by have:=grownCap_ge w (0+ys.length) 0 e;omega) ?_ hK hn
    ·simpa using dZ
    have:=grownCap_ge w (0+ys.length) 0 e;rw [size_zeroCells,me,gx,<- Nat.add_mul];congr 1;omega
   ·rename_i y hl;split at hq<;>try contradiction
    rename_i ys kV;obtain ⟨⟨eb,dX⟩,hK⟩:=hq;have bf:=hc.bQ cq hl;simp only [au] at bf;obtain ⟨u,rr,e1,h1,u2,pG,e2,h2,h3⟩:=bf;subst e2 h3;rw [ae] at h1;subst h1;have bu:=uu (P:=P) (a:=a) (w:=w) (o:=⟨dst,.call cl,ty,pos,gK,gd⟩) (b:=#[]) rfl cU cK e1;obtain ⟨i,zv,hi,fT,eZ,eC⟩:=nr (c:=⟨g0,live X h,w⟩) hz;have fV:i.size=P.cellsOf e:=(by simp [Program.cellsOf,hi]);have uq:i.bytes=P.bytesOf e:=(by simp [Program.bytesOf,hi]);have me:zv.cells.size=P.cellsOf e:=by have:=eZ.length;simp at this;omega
    obtain ⟨news,n1,n2,n3,n4,n5⟩:=xd (c:=⟨g0,live X h,w⟩) kV h2;have gx:news.length=ys.length*P.cellsOf e:=by rw [n3.length,lx n4]
    have lE:=yV (P:=P) (w:=w) (ty:=ty) (i:=i) (z:=zv) (m:=ys.length) (gR:=0) (mb:=0) (base:=none) (du:=[]) bo eM hi fT n1 (by rw [fV];exact n2 w.drew rfl)
     (by simp [Builtin.firstCells]) (by omega) (by omega) (by omega)
    refine ep (bu _ _ lE) ?_;obtain ⟨c1,s1⟩:=hc.cw.drew;have ur:=grownCap_ge w (0+ys.length) 0 e
    obtain ⟨b',g',k1,k2,k3⟩:=c1.AI (l:=ys.flatten) (us:=[]++news) (Z:=Builtin.zeroCells zv.cells (grownCap w (0+ys.length) 0 e - (0+ys.length))) e
     (au.mono (Step.le s1) _ _ (by simpa using n3)) (by simpa using n5)
    refine hn _ _ g' _ _ (hK b') k2 ?_ (s1.trans hc.cw.own k3);rw [ae];have tc:=grownCap_le_maxLen w (0+ys.length) 0 e (by unfold maxLen;unfold aN at dX;omega);refine ⟨_,grownCap w (0+ys.length) 0 e,0,k1,rfl,by rw [Nat.zero_add];rfl,by omega,by unfold aq;unfold aN at dX;omega,cW,?_,fun _=>rfl,by unfold pf;unfold maxLen at tc;omega⟩;refine ⟨_,_,_,heap_alloc_new w.drew _,?_⟩;simp only [Array.size_append,List.size_toArray,size_zeroCells,me,List.length_append,gx,List.length_nil];have e3:ys.length*P.cellsOf e+(grownCap w (0+ys.length) 0 e - (0+ys.length))*P.cellsOf e=grownCap w (0+ys.length) 0 e*P.cellsOf e:=by rw [<- Nat.add_mul];congr 1;omega
    simp only [Nat.zero_add] at e3 ⊢;omega
   ·rename_i b n' k y hl;split at hq<;>try contradiction
    rename_i hk;have hk:=Nat.eq_of_beq_eq_true hk;split at hq<;>try contradiction
    rename_i ys kV;obtain ⟨cs,cH,⟨bT,dX⟩,hK⟩:=hq;have bf:=hc.bQ cq hl;simp only [au] at bf;obtain ⟨u,rr,e1,h1,u2,pG,e2,h2,h3⟩:=bf;subst e2 h3;have bu:=uu (P:=P) (a:=a) (w:=w) (o:=⟨dst,.call cl,ty,pos,gK,gd⟩) (b:=#[]) rfl cU cK e1;obtain ⟨l1,l2,rfl⟩:=List.append_of_mem cH;refine VM hc.cw bo eM cW jN hz iD hk kV bT dX h1 h2 bu (fun b'=>?_) hn;obtain ⟨h',hu,hK⟩:=hK b';obtain ⟨m1,m2,e1,rfl⟩:=cP.split hu;obtain ⟨rfl,rfl⟩:=Jv hc.cw.nodup e1;exact hK
   ·rename_i k q xs b2 o2 n2 k2 hl;split at hq<;>try contradiction
    rename_i hk bg;have hk:=Nat.eq_of_beq_eq_true hk;have bg:=Nat.eq_of_beq_eq_true bg;subst bg;obtain ⟨cs,ys,cH,⟨bT,lL,gC⟩,dX,hK⟩:=hq;have bf:=hc.bQ cq hl;simp only [au] at bf;obtain ⟨u,rr,e1,h1,u2,pG,e2,h2,h3⟩:=bf;subst e2 h3;have bu:=uu (P:=P) (a:=a) (w:=w) (o:=⟨dst,.call cl,ty,pos,gK,gd⟩) (b:=#[]) rfl cU cK e1;obtain ⟨h',hu,_⟩:=hK 0;have uo:=yY (P:=P) hc.cw cH h2 bT lL gC;obtain ⟨l1,l2,rfl,_⟩:=cP.split hu;exact OJ hc.cw bo eM cW jN hz iD hk uo dX h1 bu hK hn
   ·rename_i k q xs y hl;split at hq<;>try contradiction
    rename_i hk;have hk:=Nat.eq_of_beq_eq_true hk;split at hq<;>try contradiction
    rename_i ys kV;obtain ⟨dX,hK⟩:=hq;have bf:=hc.bQ cq hl;simp only [au] at bf;obtain ⟨u,rr,e1,h1,u2,pG,e2,h2,h3⟩:=bf;subst e2 h3;have bu:=uu (P:=P) (a:=a) (w:=w) (o:=⟨dst,.call cl,ty,pos,gK,gd⟩) (b:=#[]) rfl cU cK e1;obtain ⟨h',hu,_⟩:=hK 0;obtain ⟨l1,l2,rfl,_⟩:=cP.split hu;exact VH hc.cw bo eM cW jN hz iD hk kV dX h1 h2 bu hK hn
   rename_i e bo eM;split at hq<;>try contradiction
   rename_i kn Wf;split at hq<;>try contradiction
   rename_i cW;split at hq<;>try contradiction
   rename_i jN;split at hq<;>try contradiction
   rename_i z hz;split at hq<;>try contradiction
   rename_i iD;split at hq<;>try contradiction
   rename_i b off n' c k kq m hl;split at hq<;>try contradiction
   rename_i hk;have cW:=Nat.le_of_ble_eq_true cW;have jN:=Nat.le_of_ble_eq_true jN;have iD:=Nat.eq_of_beq_eq_true iD;have hk:=Nat.eq_of_beq_eq_true hk;obtain ⟨cs,cH,⟨mP,hg,dX,bT⟩,hK⟩:=hq;have bf:=hc.bQ cq hl;simp only [au] at bf;obtain ⟨u,rr,e1,h1,u2,pG,e2,h2,h3⟩:=bf;subst e2 h3;rw [ae] at h2;obtain ⟨rfl,_⟩:=h2;have bu:=uu (P:=P) (a:=a) (w:=w) (o:=⟨dst,.call cl,ty,pos,gK,gd⟩) (b:=#[]) rfl cU cK e1;obtain ⟨m,rfl⟩:=Int.eq_ofNat_of_zero_le (Int.le_of_lt mP);exact VQ hc.cw cH bo Wf cW jN hz iD hk bT (by omega) (by omega) (by omega) h1 bu hK hn
  ·rename_i cU;split at hq<;>try contradiction
   rename_i t tx cK;split at hq<;>try contradiction
   rename_i e bo;split at hq<;>try contradiction
   ·rename_i b o m k b2 o2 n2 k2 hl;split at hq<;>try contradiction
    rename_i hk bg cW;have hk:=Nat.eq_of_beq_eq_true hk;have bg:=Nat.eq_of_beq_eq_true bg;have cW:=Nat.le_of_ble_eq_true cW;subst bg;obtain ⟨eH,ys,cH,⟨bT,lL,gC⟩,cs,h',hu,⟨eb,hle⟩,hK⟩:=hq;have bf:=hc.bQ cq hl;simp only [au] at bf;obtain ⟨u,rr,e1,h1,u2,pG,e2,h2,h3⟩:=bf;subst e2 h3;have ud:∃ rM,ae ⟨g0,live X h,w⟩ (.aQ b2 o2 (min n2 m) k2) rM/\(∀ w',(Builtin.lenOf u2).run P w'=.ok n2 w')/\(∀ c j,Builtin.firstCells c j u2=Builtin.firstCells c j rM):=by rw [ae] at h2;obtain ⟨p,cap,o',x1,x2,rfl,x3,x4,x5,x6,x7,x8⟩:=h2;refine ⟨.slice (some ⟨p.block,p.off+o',none⟩) (min n2 m) cap,?_,fun w'=>by simp [Builtin.lenOf],fun c j=>rfl⟩;rw [ae];exact ⟨p,cap,o',x1,x2,rfl,by omega,by omega,x5,x6,x7,x8⟩
    obtain ⟨rM,r1,r2,r3⟩:=ud;obtain ⟨news,n1,n3,n4,n5,n6⟩:=yY (P:=P) hc.cw cH r1 bT lL gC;exact JB hc bo hk cW hu h1 cU cK e1 hle (by omega) (by rw [gC];exact hK) hn (n:=n2) gC r2 (fun w' hw=>by rw [r3,<- hk];exact n3 w' hw) n4 n6
   ·rename_i b o m k b2 o2 n2 c2 k2 hl;split at hq<;>try contradiction
    rename_i hk bg cW;have hk:=Nat.eq_of_beq_eq_true hk;have bg:=Nat.eq_of_beq_eq_true bg;have cW:=Nat.le_of_ble_eq_true cW;subst bg;obtain ⟨eH,ys,cH,⟨bT,lL,gC⟩,cs,h',hu,⟨eb,hle⟩,hK⟩:=hq;have bf:=hc.bQ cq hl;simp only [au] at bf;obtain ⟨u,rr,e1,h1,u2,pG,e2,h2,h3⟩:=bf;subst e2 h3;obtain ⟨r2,rM,r1,r3⟩:=OQ (P:=P) (m:=m) h2;obtain ⟨news,n1,n3,n4,n5,n6⟩:=yY (P:=P) hc.cw cH r1 bT lL gC;exact JB hc bo hk cW hu h1 cU cK e1 hle (by omega) (by rw [gC];exact hK) hn (n:=n2) gC r2 (fun w' hw=>by rw [r3,<- hk];exact n3 w' hw) n4 n6
   ·rename_i b o m c k b2 o2 n2 c2 k2 hl;split at hq<;>try contradiction
    rename_i hk bg cW;have hk:=Nat.eq_of_beq_eq_true hk;have bg:=Nat.eq_of_beq_eq_true bg;have cW:=Nat.le_of_ble_eq_true cW;subst bg;obtain ⟨eH,ys,cH,⟨bT,lL,gC⟩,cs,h',hu,⟨eb,hle⟩,hK⟩:=hq;have bf:=hc.bQ cq hl;simp only [au] at bf;obtain ⟨u,rr,e1,h1,u2,pG,e2,h2,h3⟩:=bf;subst e2 h3;obtain ⟨r2,rM,r1,r3⟩:=OQ (P:=P) (m:=m) h2;obtain ⟨news,n1,n3,n4,n5,n6⟩:=yY (P:=P) hc.cw cH r1 bT lL gC;exact OR hc bo hk cW hu h1 cU cK e1 hle (by rw [lx lL];exact Nat.mul_le_mul_right _ (by omega)) (by rw [gC];exact hK) hn (n:=n2) gC r2 (fun w' hw=>by rw [r3,<- hk];exact n3 w' hw) n4 n6
   ·rename_i b o m c k b2 o2 n2 k2 hl;split at hq<;>try contradiction
    rename_i hk bg cW;have hk:=Nat.eq_of_beq_eq_true hk;have bg:=Nat.eq_of_beq_eq_true bg;have cW:=Nat.le_of_ble_eq_true cW;subst bg;obtain ⟨eH,ys,cH,⟨bT,lL,gC⟩,cs,h',hu,⟨eb,hle⟩,hK⟩:=hq;have bf:=hc.bQ cq hl;simp only [au] at bf;obtain ⟨u,rr,e1,h1,u2,pG,e2,h2,h3⟩:=bf;subst e2 h3;obtain ⟨r2,rM,r1,r3⟩:=VV (P:=P) (m:=m) h2;obtain ⟨news,n1,n3,n4,n5,n6⟩:=yY (P:=P) hc.cw cH r1 bT lL gC;exact OR hc bo hk cW hu h1 cU cK e1 hle (by rw [lx lL];exact Nat.mul_le_mul_right _ (by omega)) (by rw [gC];exact hK) hn (n:=n2) gC r2 (fun w' hw=>by rw [r3,<- hk];exact n3 w' hw) n4 n6
   rename_i b o m k y _ _ hl;split at hq<;>try contradiction
   rename_i hk cW;have hk:=Nat.eq_of_beq_eq_true hk;have cW:=Nat.le_of_ble_eq_true cW;split at hq<;>try contradiction
   rename_i ys kV;obtain ⟨cs,h',hu,⟨eb,Q9,hle⟩,hK⟩:=hq;have bf:=hc.bQ cq hl;simp only [au] at bf;obtain ⟨u,rr,e1,h1,u2,pG,e2,h2,h3⟩:=bf;subst e2 h3;obtain ⟨news,n1,n2,n3,n4,n5⟩:=xd (P:=P) (c:=⟨g0,live X h,w⟩) kV h2;exact JB hc bo hk cW hu h1 cU cK e1 hle (by omega) hK hn (n:=ys.length) (by omega) n1 (fun w' hw=>by rw [<- hk];exact n2 w' hw) n3 n5
  ·rename_i cU;split at hq<;>try contradiction
   rename_i t cK;split at hq<;>try contradiction
   rename_i e bo;split at hq<;>try contradiction
   rename_i z hz;split at hq<;>try contradiction
   rename_i b o m k hl;split at hq<;>try contradiction
   rename_i JE;have JE:=Nat.eq_of_beq_eq_true JE;obtain ⟨cs,h',hu,⟨eb,hle⟩,hK⟩:=hq;obtain ⟨l1,l2,rfl,rfl⟩:=cP.split hu;have bf:=hc.bQ cq hl;simp only [au] at bf;obtain ⟨u,rr,e1,h1,e2⟩:=bf;subst e2;obtain ⟨p,cap,x1,x2,rfl,x3,x4,x5,x6,_⟩:=h1.BF eb;simp only at x1;obtain ⟨i,zv,hi,fT,eZ,eC⟩:=nr (c:=⟨g0,live X (l1++(b,.vec cs)::l2),w⟩) hz;have me:zv.cells.size=k:=by have:=eZ.length;simp at this;omega
   have cJ:=au.FI eZ m;have vz:(gS m z).length=m*k:=by unfold gS;simp [JE]
   have mc:(List.replicate m zv.cells.toList).flatten.length=m*k:=by simp [me]
   obtain ⟨q,cc,tt,p1,p2,p3,p4,p5,p6⟩:=FF (o:=o) hc.cw (by omega) cJ (by
    intro u hu;simp only [List.mem_flatten,List.mem_replicate] at hu;obtain ⟨l,⟨_,rfl⟩,hu⟩:=hu;exact eC u (by simpa using hu))
   rw [x1] at p1;cases p1
   refine ep (u:=.tuple #[]) (w':=w.setCells p.block (p.off+o) (List.replicate m zv.cells.toList).flatten) ?_ (hn (.aB []) _ g0 _ _ hK p5 (by rw [ae];exact ⟨#[],rfl,by simp [au]⟩) p6);have h1:cl.args.map a.eval=#[.slice (some ⟨p.block,p.off+o,none⟩) m cap]:=by rw [<- Array.toList_inj];simpa using e1
   have h2:cl.argTypes=#[t]:=by rw [<- Array.toList_inj];simpa using cK
   have ax:=run_storeCells_cells (P:=P) p.block (p.off+o) (List.replicate m zv.cells.toList).flatten 0 w
    (fun j hj=>by
      simp only [Nat.add_zero];rw [cell_of_row w p.block (p.off+o+j) cc tt _ p3];have:p.off+o+j<cc.size:=(by omega);simp [this])
    (fun j hj=>frozen_of_row w p.block _ cc tt p3) (fun v hv=>by
      simp only [List.mem_flatten,List.mem_replicate] at hv;obtain ⟨l,⟨_,rfl⟩,hu⟩:=hv;exact eC v (by simpa using hu))
   simp only [Nat.add_zero] at ax;have Jz:(Builtin.zeroCells zv.cells m).toList=(List.replicate m zv.cells.toList).flatten:=FH zv.cells (by omega) m;obtain ⟨m',rfl⟩:∃ m',m=m'+1:=⟨m - 1,by omega⟩;have Wg:(zeroValue e).run P w=.ok zv w:=(by simp [zeroValue,typeInfo,hi,fT]);have bq:(Builtin.clear_ #[t] ty #[.slice (some ⟨p.block,p.off+o,none⟩) (m'+1) cap]).run P w=.ok (.tuple #[]) (w.setCells p.block (p.off+o) (List.replicate (m'+1) zv.cells.toList).flatten):=(by simp only [Builtin.clear_,List.getElem?_toArray,List.getElem?_cons_zero,Sem.run_bind,cB bo,Result.andThen_ok,Wg,Jz,ax,Sem.run_pure]);simp [execOp,resolve,cU,invoke,builtin,h1,h2,bq]
  exact hq.elim
 all_goals (simp [cy] at hq)
theorem Wh {o:Oper} {cl:Call} {K:AV->af->Prop} {next:Act->World->Prop} {Q:Exit->Act->World->Prop} (cR:o.op=.call cl)
  (hq:uS P r h K cl) (hc:bK n X g0 r h a w) (hn:mO X g0 h w K o.dst a next):o.wp P a w next Q:=by
 have cq:dj a []:=fun e he=>by cases he
 obtain ⟨dst,op,ty,pos,gK,gd⟩:=o;simp only at cR hn;subst cR;unfold uS at hq;split at hq<;>try contradiction
 rename_i cU;split at hq<;>try contradiction
 rename_i t tx cK;split at hq<;>try contradiction
 rename_i e bo eM;split at hq<;>try contradiction
 rename_i cW;split at hq<;>try contradiction
 rename_i jN;split at hq<;>try contradiction
 rename_i z hz;split at hq<;>try contradiction
 rename_i iD;have cW:=Nat.le_of_ble_eq_true cW;have jN:=Nat.le_of_ble_eq_true jN;have iD:=Nat.eq_of_beq_eq_true iD;split at hq<;>try contradiction
 ·rename_i y hl;split at hq<;>try contradiction
  rename_i ys kV;obtain ⟨⟨eb,dX⟩,hK⟩:=hq;have bf:=hc.bQ cq hl;simp only [au] at bf;obtain ⟨u,rr,e1,h1,u2,pG,e2,h2,h3⟩:=bf;subst e2 h3;rw [ae] at h1;subst h1;have bu:=uu (P:=P) (a:=a) (w:=w) (o:=⟨dst,.call cl,ty,pos,gK,gd⟩) (b:=#[]) rfl cU cK e1;obtain ⟨i,zv,hi,fT,eZ,eC⟩:=nr (c:=⟨g0,live X h,w⟩) hz;have fV:i.size=P.cellsOf e:=(by simp [Program.cellsOf,hi]);have uq:i.bytes=P.bytesOf e:=(by simp [Program.bytesOf,hi]);have me:zv.cells.size=P.cellsOf e:=by have:=eZ.length;simp at this;omega
  obtain ⟨news,n1,n2,n3,n4,n5⟩:=xd (c:=⟨g0,live X h,w⟩) kV h2;have gx:news.length=ys.length*P.cellsOf e:=by rw [n3.length,lx n4]
  have lE:=yV (P:=P) (w:=w) (ty:=ty) (i:=i) (z:=zv) (m:=ys.length) (gR:=0) (mb:=0) (base:=none) (du:=[]) bo eM hi fT n1 (by rw [fV];exact n2 w.drew rfl)
   (by simp [Builtin.firstCells]) (by omega) (by omega) (by omega)
  refine ep (bu _ _ lE) ?_;obtain ⟨c1,s1⟩:=hc.cw.drew;have ur:=grownCap_ge w (0+ys.length) 0 e
  obtain ⟨b',g',k1,k2,k3⟩:=c1.AI (l:=ys.flatten) (us:=[]++news) (Z:=Builtin.zeroCells zv.cells (grownCap w (0+ys.length) 0 e - (0+ys.length))) e
   (au.mono (Step.le s1) _ _ (by simpa using n3)) (by simpa using n5)
  refine hn _ _ g' _ _ (hK b') k2 ?_ (s1.trans hc.cw.own k3);rw [ae];have tc:=grownCap_le_maxLen w (0+ys.length) 0 e (by unfold maxLen;unfold aN at dX;omega);refine ⟨_,grownCap w (0+ys.length) 0 e,0,k1,rfl,by rw [Nat.zero_add];rfl,by omega,by unfold aq;unfold aN at dX;omega,cW,?_,fun _=>rfl,by unfold pf;unfold maxLen at tc;omega⟩;refine ⟨_,_,_,heap_alloc_new w.drew _,?_⟩;simp only [Array.size_append,List.size_toArray,size_zeroCells,me,List.length_append,gx,List.length_nil];have e3:ys.length*P.cellsOf e+(grownCap w (0+ys.length) 0 e - (0+ys.length))*P.cellsOf e=grownCap w (0+ys.length) 0 e*P.cellsOf e:=by rw [<- Nat.add_mul];congr 1;omega
  simp only [Nat.zero_add] at e3 ⊢;omega
 rename_i b off k y hl;split at hq<;>try contradiction
 rename_i hk;have hk:=Nat.eq_of_beq_eq_true hk;split at hq<;>try contradiction
 rename_i ys kV;obtain ⟨⟨⟨cs,cH⟩,eb,dX⟩,hK⟩:=hq;have bf:=hc.bQ cq hl;simp only [au] at bf;obtain ⟨u,rr,e1,h1,u2,pG,e2,h2,h3⟩:=bf;subst e2 h3;have bu:=uu (P:=P) (a:=a) (w:=w) (o:=⟨dst,.call cl,ty,pos,gK,gd⟩) (b:=#[]) rfl cU cK e1;refine OM hc.cw cH bo eM cW jN hz iD hk (.inl rfl) (by omega) (by omega) (xd (c:=⟨g0,live X h,w⟩) kV h2) h1 bu ?_ hn;intro q;have:=hK q;simpa using this
theorem Wi {o:Oper} {t:TypeId} {m:Nat} {parts:Array (Nat × Operand)} {K:AV->af->Prop} {next:Act->World->Prop} {Q:Exit->Act->World->Prop} (cR:o.op=.buildSlice t m parts)
  (hq:uT P r h K t m parts) (hc:bK n X g0 r h a w) (hn:mO X g0 h w K o.dst a next):o.wp P a w next Q:=by
 have cq:dj a []:=fun e he=>by cases he
 obtain ⟨dst,op,ty,pos,gK,gd⟩:=o;simp only at cR hn;subst cR;unfold uT at hq;split at hq<;>try contradiction
 rename_i e bo;split at hq<;>try contradiction
 rename_i l hl;split at hq<;>try contradiction
 rename_i q1 q2 q3;split at hq<;>try contradiction
 rename_i z hz;split at hq<;>try contradiction
 rename_i q4;have q1:=Nat.eq_of_beq_eq_true q1;have q2:=Nat.le_of_ble_eq_true q2;have q3:=Nat.le_of_ble_eq_true q3;have q4:=Nat.eq_of_beq_eq_true q4;obtain ⟨ie,zv,bw,fT,eZ,uY⟩:=nr (c:=⟨g0,live X h,w⟩) hz;have iB:ie.size=P.cellsOf e:=(by simp [Program.cellsOf,bw]);have iD:zv.cells.size=P.cellsOf e:=by have:=eZ.length;simp at this;omega
 have BR:∀ u∈(Array.range (m*P.cellsOf e)).map (zv.cells[· % zv.cells.size]!),u.oneCell'=true:=by intro u hu;obtain ⟨j,hj,rfl⟩:=Array.mem_map.1 hu;have aP:j % zv.cells.size<zv.cells.size:=Nat.mod_lt _ (by omega);rw [getElem!_pos zv.cells _ aP];exact uY _ (Array.getElem_mem _)
 by_cases hm:m=0
 ·subst hm;have dw:l=[]:=List.eq_nil_of_length_eq_zero q1;subst dw
  have iC:parts.toList=[]:=by
   cases hh:parts.toList with
   | nil=>rfl
   | cons q qs=>
     rw [hh] at hl;obtain ⟨i0,x0⟩:=q;unfold iA at hl
     (repeat' split at hl)<;>simp_all
  have ft:parts=#[]:=(by simpa using iC);obtain ⟨k,g',k1,k2,k3⟩:=hc.cw.CS (l:=[]) (us:=#[]) e (by simp [au]) (by simp);refine ep (u:=.slice (some ⟨w.heap.size,0,none⟩) 0 0) (w':=w.alloc (.cells #[] e)) ?_ (hn _ _ g' _ _ (hq k) k2 ?_ k3)
  ·have e0:(Array.map (fun _=>(default:Value)) (Array.range 0))=#[]:=(by simp [Array.range]);simp [execOp,Instr.buildSlice,cB bo,px bw,ft,Instr.fill,newRow,e0]
  rw [ae];exact ⟨_,k1,rfl,rfl,Nat.le_refl _,by unfold aq;omega,by omega,⟨_,_,_,heap_alloc_new w _,by simp⟩,by unfold pf;omega⟩
 replace hq:∀ b,K (.aQ b 0 m (P.cellsOf e)) ((b,.vec l.flatten)::h):=by
  cases m with
  | zero=>exact absurd rfl hm
  | succ n=>exact hq
 obtain ⟨res,us,e1,e2,e3,e4,e5,e6,e7⟩:=EO hc cq hl ((Array.range (m*P.cellsOf e)).map (zv.cells[· % zv.cells.size]!))
  (by
    have:∀ (ps:List (Nat × Operand)) (k:Nat) (l:List (List AV)),iA r [] (P.cellsOf e) k ps=some l->l.length=ps.length:=by
     intro ps;induction ps with
     | nil=>intro k l hh;simp [iA] at hh;subst hh;rfl
     | cons q qs ih=>
       intro k l hh;obtain ⟨i0,x0⟩:=q;unfold iA at hh;split at hh<;>try contradiction
       split at hh<;>try contradiction
       split at hh<;>try contradiction
       split at hh<;>try contradiction
       split at hh<;>try contradiction
       rename_i l' hr;cases hh
       simp [ih _ _ hr]
    have:=this _ _ _ hl;rw [Nat.zero_add,<- this,q1];simp) BR
 have fu:parts.toList.length=m:=(by omega);have Ng:0<m*P.cellsOf e:=Nat.mul_pos (by omega) (by omega);have wA:res.toList=us:=by rw [e6];simp only [Nat.zero_mul,List.take_zero,List.nil_append,Nat.zero_add,fu];rw [List.drop_of_length_le (by simp)];simp
 have bu:=run_buildSlice (P:=P) w t e m (parts.map fun (i,x)=>(i,a.eval x)) res ie zv bo bw fT (by rw [iB];omega) (by rw [iB];omega)
  (by rw [iB];simpa using e1)
 obtain ⟨k,g',k1,k2,k3⟩:=hc.cw.CS (l:=l.flatten) (us:=res) e (by rw [wA];exact e4) e7;refine ep (u:=.slice (some ⟨w.heap.size,0,none⟩) m m) (w':=w.alloc (.cells res e)) ?_ (hn _ _ g' _ _ (hq k) k2 ?_ k3)
 ·simp [execOp,bu]
 rw [ae];have Nh:m<=65536:=Nat.le_trans (Nat.le_mul_of_pos_right m (by omega)) q3;refine ⟨_,m,0,k1,rfl,rfl,Nat.le_refl _,by unfold aq;omega,by omega,?_,fun _=>rfl,by unfold pf;omega⟩;refine ⟨_,_,_,heap_alloc_new w _,?_⟩;have:=e4.length;have h2:res.size=l.flatten.length:=by rw [<- Array.length_toList,wA];omega
 have h3:=lx e3;simp only [Nat.zero_add];rw [h2,h3,q1];omega
theorem JF {own jE:List Nat} {o:Oper} {K:AV->af->Prop} {next:Act->World->Prop} {Q:Exit->Act->World->Prop}
  (hq:gJ P own jE o.dst r h K o.op) (hc:bK n X g0 r h a w) (hn:mO X g0 h w K o.dst a next):o.wp P a w next Q:=by
 unfold gJ at hq;split at hq
 ·rename_i cl d e1 e2;split at hq
  ·exact Wh e1 hq hc hn
  rw [<- e1] at hq;exact CU hq hc hn
 ·rename_i t m parts d e1 e2;split at hq
  ·exact Wi e1 hq hc hn
  rw [<- e1] at hq;exact CU hq hc hn
 exact CU hq hc hn
end Go.Abs
/-
 The abstract fR,part J: the BG MZ xY the code does.
-/
namespace Go.Abs
open Go
variable {P:Program} {n:Nat} {X:Nat->Prop} {g0:Gh} {r:aC} {h:af} {a:Act} {w:World}
theorem OW {d:Nat}:∀ {g:G},pt.EC g d=false->∀ e∈g,e.1≠d
 | [],_,e,he=>by cases he
 | (t,b,w)::g,hm,e,he=>by
   unfold pt.EC at hm;split at hm
   ·cases hm
   rename_i ht;rcases List.mem_cons.1 he with rfl|he
   ·intro e;subst e;rw [Nat.beq_refl] at ht;cases ht
   exact OW hm e he
theorem xh {t:Nat} {gg:G} {v:AV} {d:Nat} (hn:pt ((t,gg,v)::r) d=true):(∀ e∈gg,e.1≠d)/\pt r d=true:=by
 cases gg with
 | nil=>exact ⟨by simp,hn⟩
 | cons e g=>
   unfold pt at hn;split at hn
   ·cases hn
   rename_i hm;exact ⟨OW hm,hn⟩
theorem zb {d:Nat}:∀ {r:aC} {t:Nat} {gg:G} {v:AV},pt r d=true->bl r t=some (gg,v)->∀ e∈gg,e.1≠d
 | [],t,gg,v,_,h=>by cases h
 | (t',g',v')::r,t,gg,v,hn,h=>by
   obtain ⟨h1,h2⟩:=xh hn;unfold bl at h;split at h
   ·cases h;exact h1
   exact zb h2 h
theorem FN {d:Nat} {u:Value} {gg:G} (hd:∀ e∈gg,e.1≠d):dj (a.put (some d) u) gg↔dj a gg:=by
 unfold dj;constructor
 ·intro hh e he;have:=hh e he;simpa [Act.put,Array.getElem?_setIfInBounds_ne (Ne.symm (hd e he))] using this
 intro hh e he;have:=hh e he;simpa [Act.put,Array.getElem?_setIfInBounds_ne (Ne.symm (hd e he))] using this
theorem bK.step {g':Gh} {h':af} {w':World} (hc:bK n X g0 r h a w) (dH:CW X g' h' w') (ax:Step X g0 h w g' h' w'):bK n X g' r h' a w':=
 ⟨dH,fun t gg v hl=>⟨fun hh=>let ⟨h1,u,h2,h3⟩:=(hc.lr t gg v hl).1 hh;⟨h1,u,h2,ae.mono (Step.le ax) _ _ h3⟩,(hc.lr t gg v hl).2⟩,hc.defers,hc.size⟩
theorem bK.put {g':Gh} {h':af} {w':World} (hc:bK n X g0 r h a w) (dH:CW X g' h' w') (ax:Step X g0 h w g' h' w') {d:Nat} (hd:d<n) {gg:G} {v:AV} {u:Value}
  (qH:pt ((d,gg,v)::r) d=true) (h1:dj a gg->(∀ e∈gg,e.2.1=e.2.2)/\ae ⟨g',live X h',w'⟩ v u) (h2:¬ dj a gg->u=undef) :
  bK n X g' ((d,gg,v)::r) h' (a.put (some d) u) w':=by
 obtain ⟨n1,n2⟩:=xh qH;have lz:(a.put (some d) u).tmps[d]?=some u:=by have:=hc.size;simp [Act.put,Array.getElem?_setIfInBounds,show d<a.tmps.size from by omega]
 refine ⟨dH,?_,hc.defers,by simpa [Act.put] using hc.size⟩;intro t FO v' hl;unfold bl at hl;split at hl
 ·rename_i ht;have ht:=Nat.eq_of_beq_eq_true ht;subst ht;cases hl
  rw [FN n1,lz];exact ⟨fun hh=>⟨(h1 hh).1,u,rfl,(h1 hh).2⟩,fun hh=>by rw [h2 hh]⟩
 rename_i ht;have aM:t≠d:=by intro e;subst e;rw [Nat.beq_refl] at ht;cases ht
 rw [FN (zb n2 hl)];have hg:(a.put (some d) u).tmps[t]?=a.tmps[t]?:=(by simp [Act.put,Array.getElem?_setIfInBounds_ne (Ne.symm aM)]);rw [hg];exact (hc.step dH ax).lr t FO v' hl
theorem AJ {g':Gh} {h':af} {w':World} {d:Option Tmp} {gg:G} {v:AV} {u:Value} {K:aC->Prop} (hc:bK n X g0 r h a w) (dH:CW X g' h' w') (ax:Step X g0 h w g' h' w')
  (hs:fS n d gg v r K) (h1:dj a gg->(∀ e∈gg,e.2.1=e.2.2)/\ae ⟨g',live X h',w'⟩ v u) (h2:¬ dj a gg->u=undef) :
  ∃ r',K r'/\bK n X g' r' h' (a.put d u) w':=by
 unfold fS at hs;split at hs
 ·exact ⟨r,hs,by simpa [Act.put] using hc.step dH ax⟩
 split at hs<;>try contradiction
 rename_i aP;split at hs<;>try contradiction
 rename_i qH;rw [Nat.blt_eq] at aP;exact ⟨_,hs,hc.put dH ax aP qH h1 h2⟩
theorem AK:∀ {ts:List Nat} {k:aC->Prop},pw r k ts->∃ l,k l/\∀ t gg v,bl l t=some (gg,v)->bl r t=some (gg,v)
 | [],k,h=>⟨[],h,fun t gg v hl=>by cases hl⟩
 | t::ts,k,h=>by
   unfold pw at h;split at h
   ·rename_i v hv;obtain ⟨l,h1,h2⟩:=AK h;refine ⟨_,h1,fun t' gg v' hl=>?_⟩;unfold bl at hl;split at hl
    ·rename_i ht;have ht:=Nat.eq_of_beq_eq_true ht;subst ht;cases hl
     exact hv
    exact h2 t' gg v' hl
   exact AK (k:=k) h
theorem bK.less {r':aC} (hc:bK n X g0 r h a w) (hl:∀ t gg v,bl r' t=some (gg,v)->bl r t=some (gg,v)):bK n X g0 r' h a w:=
 ⟨hc.cw,fun t gg v h=>hc.lr t gg v (hl t gg v h),hc.defers,hc.size⟩
theorem Wj {cs l:List AV} (hl:cs.length=l.length):dn cs 0 l=l:=by unfold dn;simp [<- hl]
theorem Wk {t:TypeId} {d:Nat} {y:Operand} {K:aC->af->Prop} {o:Oper} {next:Act->World->Prop} {Q:Exit->Act->World->Prop} (ho:o.op=.store t (.tmp d) y) (CX:o.dst=none)
  (hs:yh P r h t d y K) (hc:bK n X g0 r h a w)
  (hn:∀ r' h' g' w',K r' h'->bK n X g' r' h' a w'->Step X g0 h w g' h' w'->next a w'):o.wp P a w next Q:=by
 have cq:dj a []:=fun e he=>by cases he
 unfold yh at hs;split at hs<;>try contradiction
 rename_i b hx;split at hs<;>try contradiction
 rename_i v hy;split at hs<;>try contradiction
 rename_i l hv;split at hs<;>try contradiction
 rename_i hlen;have hlen:=Nat.eq_of_beq_eq_true hlen;obtain ⟨cs,h',hu,⟨eb,hl⟩,hK⟩:=hs;obtain ⟨l1,l2,rfl,rfl⟩:=bj.split hu;obtain ⟨r1,r2⟩:=Ak hv (hc.aL cq hy);have gw:=hc.aL cq hx;obtain ⟨p,cc,tt,p1,p2,p3,p4,p5,p6⟩:=FF (o:=0) hc.cw (by omega) r1 (by intro u hu;exact r2 u (by simpa using hu));rw [Wj hl] at p5 p6;rw [ae] at gw;obtain ⟨p',q1,q2,q3⟩:=gw;simp only at q1;rw [p1] at q1;cases q1
 have FL:=r1.length;simp at FL
 obtain ⟨s1,s2⟩:=p5.sub (h':=l1++l2) (by
   intro k o hm;simp only [List.mem_append,List.mem_cons] at hm ⊢;rcases hm with h|h
   ·exact .inl h
   ·exact .inr (.inr h)) (by
   have:=p5.nodup;rw [um] at this;simp only [keys,List.map_append,List.nodup_append,List.nodup_cons,List.mem_cons] at this ⊢;exact ⟨this.1,this.2.1.2,fun x hx y hy=>this.2.2 x hx y (.inr hy)⟩)
 have bu:(execOp a.eval o).run P w=.ok .skip (w.setCells p.block (p.off+0) (a.eval y).cells.toList):=by have:=OF (P:=P) (w:=w) (t:=t) (b:=p.block) (o:=p.off+0) (u:=a.eval y) (by omega) (by omega) p3 (by simp at p4;omega) r2;simp only [Nat.add_zero] at this q3;simp [execOp,ho,q3,this]
 have CY:=p5.sY;have CZ:=p5.sep b (by rw [iZ];exact .inl rfl);have jt:=p5.obj b (.vec l) (by simp);refine EF bu ?_;rw [CX];refine hn _ _ g0 _ hK ?_ (p6.trans hc.cw.own s2);have cQ:=hc.step s1 (p6.trans hc.cw.own s2);refine ⟨s1,fun t' gg v' dR=>?_,hc.defers,hc.size⟩;unfold bl at dR;split at dR
 ·rename_i ht;have ht:=Nat.eq_of_beq_eq_true ht;subst ht;cases dR
  refine ⟨fun _=>⟨by simp,?_⟩,fun hh=>absurd cq hh⟩
  have vA:∃ u,a.tmps[d]?=some u/\a.eval (.tmp d)=u:=by
   simp only [Abs.aL] at hx;split at hx<;>try contradiction
   rename_i g' v' dh;split at hx<;>try contradiction
   rename_i gA;have hh:=HP cq gA;obtain ⟨_,u,hu,_⟩:=(hc.lr _ _ _ dh).1 hh;exact ⟨u,hu,MG hu⟩
  obtain ⟨u,zc,mB⟩:=vA;refine ⟨u,zc,?_⟩;rw [ae];rw [mB] at q3;refine ⟨p.block,p.off+0,q3,?_⟩;obtain ⟨pp,sw,t2,h1,h2,h3,h4,h5,h6⟩:=jt;simp only at h1 h3 h4;rw [p1] at h1;cases h1
  -- the cells,one by one
  have key:∀ (l':List AV) (o:Nat),(∀ i x,l'[i]?=some x->∃ u,sw[p.off+(o+i)]?=some u/\u.oneCell'=true/\ae ⟨g0,live X (l1++(b,.vec l)::l2),w.setCells p.block (p.off+0) (a.eval y).cells.toList⟩ x u) ->
    bC ⟨g0,live X (l1++l2),w.setCells p.block (p.off+0) (a.eval y).cells.toList⟩ l' p.block (p.off+o):=by
   intro l';induction l' with
   | nil=>intro o _;simp [bC]
   | cons x l' ih=>
     intro o hh;simp only [bC];obtain ⟨u,e1,e2,e3⟩:=hh 0 x (by simp);refine ⟨⟨u,?_,e2,?_,ae.mono (Step.le s2) _ _ e3⟩,?_⟩
     ·rw [cell_of_row _ p.block _ sw t2 _ h4];simpa using e1
     ·intro k s hk uz;simp only at hk;rw [h3] at hk;cases hk
      rcases uz with hx|hk
      ·exact absurd hx CZ
      exact absurd hk CY
     rw [show p.off+o+1=p.off+(o+1) from rfl];refine ih (o+1) (fun i x hx=>?_);have:=hh (i+1) x (by simpa using hx);rwa [show o+(i+1)=o+1+i from by omega] at this
  exact key l 0 (fun i x hx=>by simpa using h6 i x hx)
 exact cQ.lr t' gg v' dR
theorem FP {o:Oper} {f:Nat->Option Bool} (h:o.guard=none):Region.wanted o f=true:=by simp [Region.wanted,h]
theorem Wm {v w:Bool} (h:Ez v w=true):v=w:=by cases v<;>cases w<;>first|rfl|cases h
theorem OX {tj:Nat} {w:Bool} (hw:a.tmps[tj]?=some (.bool w)):∀ {g:G},dj a (uU tj w g)↔dj a g
 | []=>Iff.rfl
 | (t,b,v)::g=>by
   have ih:=OX hw (g:=g)
   have hc:∀ {g':G},dj a ((t,b,v)::g')↔(a.tmps[t]?=some (.bool v)/\dj a g'):=by
    intro g';unfold dj
    exact ⟨fun hh=>⟨hh (t,b,v) (by simp),fun e he=>hh e (by simp [he])⟩,fun hh e he=>by
     rcases List.mem_cons.1 he with rfl|he
     ·exact hh.1
     exact hh.2 e he⟩
   unfold uU;split
   ·rename_i ht;have ht:=Nat.eq_of_beq_eq_true ht;subst ht;split
    ·rename_i hv;have hv:=Wm hv;subst hv;rw [ih,hc];exact ⟨fun h1=>⟨hw,h1⟩,fun h1=>h1.2⟩
    rw [hc,hc,ih]
   rw [hc,hc,ih]
theorem FQ {tj:Nat} {w:Bool}:∀ {g:G},∀ e∈uU tj w g,e∈g
 | [],e,he=>he
 | (t,b,v)::g,e,he=>by
   unfold uU at he;split at he
   ·split at he
    ·exact List.mem_cons_of_mem _ (FQ e he)
    rcases List.mem_cons.1 he with rfl|he
    ·simp
    exact List.mem_cons_of_mem _ (FQ e he)
   rcases List.mem_cons.1 he with rfl|he
   ·simp
   exact List.mem_cons_of_mem _ (FQ e he)
theorem OY {tj:Nat} {w:Bool}:∀ {r:aC} {t:Nat} {gg:G} {v:AV},bl (tT tj w r) t=some (gg,v)->∃ g,bl r t=some (g,v)/\gg=uU tj w g
 | [],t,gg,v,h=>by cases h
 | (t',g',v')::r,t,gg,v,h=>by
   unfold tT bl at h;unfold bl;split at h
   ·rename_i e;cases h
    exact ⟨g',by first|rfl|rw [e],rfl⟩
   rename_i e;obtain ⟨g,h1,h2⟩:=OY h;exact ⟨g,by first|exact h1|(rw [e];exact h1),h2⟩
theorem bK.tT {tj:Nat} {w0:Bool} (hc:bK n X g0 r h a w) (hw:a.tmps[tj]?=some (.bool w0)) (he:∀ t g v,bl r t=some (g,v)->dj a g->∀ e∈g,e.2.1=e.2.2):bK n X g0 (tT tj w0 r) h a w:=by refine ⟨hc.cw,fun t gg v hl=>?_,hc.defers,hc.size⟩;obtain ⟨g,h1,rfl⟩:=OY hl;rw [OX hw];exact ⟨fun hh=>⟨fun e hm=>he t g v h1 hh e (FQ e hm),((hc.lr t g v h1).1 hh).2⟩,fun hh=>(hc.lr t g v h1).2 hh⟩
theorem OZ {c:av} {all:List Oper} {K:aC->af->Prop} {Q:Exit->Act->World->Prop}:∀ (l:List Oper) (i:Nat) (r:aC) (h:af) (g0:Gh) (a:Act) (w:World),
  (∀ j,all[i+j]?=l[j]?)->kJ P c n all K l r h->bK n X g0 r h a w ->
  (∀ r' h' g' a' w',K r' h'->bK n X g' r' h' a' w'->Step X g0 h w g' h' w'->Q .normal a' w') ->
  wpOps P all.toArray Q (List.range' i l.length) a w
 | [],i,r,h,g0,a,w,hi,hr,hc,hf=>by unfold kJ at hr;obtain ⟨r',hK,hl⟩:=AK (k:=fun r'=>K r' h) hr;exact hf r' h g0 a w hK (hc.less hl) (Step.refl _ _ _ _)
 | o::l,i,r,h,g0,a,w,hi,hr,hc,hf=>by
   have cq:dj a []:=fun e he=>by cases he
   have Wn:all.toArray[i]?=some o:=by have:=hi 0;simpa using this
   have dT:∀ j,all[i+1+j]?=l[j]?:=fun j=>by have:=hi (j+1);rw [show i+1+j=i+(j+1) from by omega];simpa using this
   simp only [List.length_cons,List.range'_succ,wpOps,Wn]
   -- xY follows
   have vB:∀ (r':aC) (h':af) (g':Gh) (a':Act) (w':World),kJ P c n all K l r' h'->bK n X g' r' h' a' w'->Step X g0 h w g' h' w' ->
     wpOps P all.toArray Q (List.range' (i+1) l.length) a' w':=fun r' h' g' a' w' qw bN ax=>
    OZ l (i+1) r' h' g' a' w' dT qw bN (fun r2 h2 g2 a2 w2 hK cQ mQ=>hf r2 h2 g2 a2 w2 hK cQ (ax.trans hc.cw.own mQ))
   have gx:∀ {a':Act},mO X g0 h w (fun v h'=>fS n o.dst [] v r fun r'=>kJ P c n all K l r' h') o.dst a (wpOps P all.toArray Q (List.range' (i+1) l.length)):=by intro _ v h' g' u w' hs dH cJ ax;obtain ⟨r',hK,bN⟩:=AJ (u:=u) hc dH ax hs (fun _=>⟨by simp,cJ⟩) (fun hh=>absurd cq hh);exact vB r' h' g' _ w' hK bN ax
   unfold kJ at hr;split at hr
   · -- no guard
    rename_i fE;rw [if_pos (FP fE)];left;split at hr
    ·split at hr
     ·rename_i t d y cR CX;split at hr
      ·refine Wk cR CX hr hc (fun r' h' g' w' hK bN ax=>vB r' h' g' a w' hK bN ax)
      exact CU hr hc (gx (a':=a))
     exact JF hr hc (gx (a':=a))
    refine ES hr hc cq (by simp) ?_;intro v g' u w' hs dH cJ ax;obtain ⟨r',hK,bN⟩:=AJ (u:=u) hc dH ax hs (fun _=>⟨by simp,cJ⟩) (fun hh=>absurd cq hh);exact vB r' h g' _ w' hK bN ax
   -- a guard
   rename_i j wt fE;split at hr<;>try contradiction
   rename_i oj Da;split at hr<;>try contradiction
   rename_i tj Db;split at hr<;>try contradiction
   rename_i gj b dh;have vA:=hc.lr tj gj (.bool b) dh
   have hy:yielded all.toArray a.tmps j=match a.tmps[tj]? with|some (.bool b)=>some b|_=>none:=by
    unfold yielded;simp [Da,Db];rcases a.tmps[tj]? with _|v
    ·rfl
    cases v<;>rfl
   have Dc:Region.wanted o (yielded all.toArray a.tmps)=(yielded all.toArray a.tmps j == some wt):=(by simp [Region.wanted,fE]);have uA:dj a gj->Region.wanted o (yielded all.toArray a.tmps)=decide (b=wt)/\a.tmps[tj]?=some (.bool b)/\∀ e∈gj,e.2.1=e.2.2:=by intro hh;obtain ⟨h1,u,h2,h3⟩:=vA.1 hh;rw [ae] at h3;subst h3;refine ⟨?_,h2,h1⟩;rw [Dc,hy,h2];simp only;cases b<;>cases wt<;>rfl
   have JG:¬ dj a gj->Region.wanted o (yielded all.toArray a.tmps)=false/\a.tmps[tj]?=some undef:=by intro hh;have h1:=vA.2 hh;refine ⟨?_,h1⟩;rw [Dc,hy,h1];rfl
   have jO:dj a (gj++[(tj,b,wt)])↔(dj a gj/\b=wt):=by
    constructor
    ·intro hh;have h1:dj a gj:=fun e he=>hh e (by simp [he]);refine ⟨h1,?_⟩;have h2:=hh (tj,b,wt) (by simp);simp only at h2;rw [(uA h1).2.1] at h2;cases h2;rfl
    rintro ⟨h1,rfl⟩ e he;simp only [List.mem_append,List.mem_singleton] at he;rcases he with he|rfl
    ·exact h1 e he
    exact (uA h1).2.1
   split at hr
   · -- a call that is split
    split at hr<;>try contradiction
    obtain ⟨qI,vC⟩:=hr;obtain ⟨y1,y2,y3⟩:=uA cq;rw [y1];by_cases hb:b=wt
    ·simp only [hb,decide_true,if_true];left;have cQ:=hc.tT (w0:=wt) (by rw [y2,hb]) (fun t g v hl hh=>((hc.lr t g v hl).1 hh).1);refine CU (qI hb) cQ ?_;intro v h' g' u w' hs dH cJ ax;obtain ⟨r',hK,bN⟩:=AJ (u:=u) cQ dH ax hs (fun _=>⟨by simp,cJ⟩) (fun hh=>absurd cq hh);exact vB r' h' g' _ w' hK bN ax
    simp only [hb,decide_false,Bool.false_eq_true,if_false]
    obtain ⟨r',hK,bN⟩:=AJ (u:=undef) hc hc.cw (Step.refl _ _ _ _) (vC hb) (fun hh=>by
     have:=hh (tj,b,wt) (by simp);simp only at this;rw [y2] at this;cases this;exact absurd rfl hb) (fun _=>rfl)
    exact vB r' h g0 _ w hK bN (Step.refl _ _ _ _)
   split at hr<;>try contradiction
   by_cases hh:dj a (gj++[(tj,b,wt)])
   ·obtain ⟨h1,h2⟩:=jO.1 hh;obtain ⟨y1,y2,y3⟩:=uA h1;rw [y1];simp only [h2,decide_true,if_true];left
    have he:∀ e∈gj++[(tj,b,wt)],e.2.1=e.2.2:=by
     intro e he;simp only [List.mem_append,List.mem_singleton] at he;rcases he with he|rfl
     ·exact y3 e he
     exact h2
    refine ES hr hc hh he ?_;intro v g' u w' hs dH cJ ax;obtain ⟨r',hK,bN⟩:=AJ (u:=u) hc dH ax hs (fun _=>⟨he,cJ⟩) (fun hn=>absurd hh hn);exact vB r' h g' _ w' hK bN ax
   have hw:Region.wanted o (yielded all.toArray a.tmps)=false:=by
    by_cases h1:dj a gj
    ·rw [(uA h1).1];simp only [decide_eq_false_iff_not];intro hb;exact hh (jO.2 ⟨h1,hb⟩)
    exact (JG h1).1
   rw [hw];simp only [Bool.false_eq_true,if_false];obtain ⟨v,hs⟩:=CQ hr;obtain ⟨r',hK,bN⟩:=AJ (u:=undef) hc hc.cw (Step.refl _ _ _ _) hs (fun hy=>absurd hy hh) (fun _=>rfl);exact vB r' h g0 _ w hK bN (Step.refl _ _ _ _)
end Go.Abs
/-
 The abstract fR,part K: xY a quiet operation R0 on.
-/
namespace Go.Abs
open Go
variable {P:Program} {n:Nat} {X:Nat->Prop} {g0:Gh} {r:aC} {h:af} {a:Act} {w:World}
theorem JH {g:G} {K:AV->Prop} {op:Op} (hq:bH P r g h K op):∃ v,K v/\bH P r g h (fun x=>x=v) op:=by
 have sW:∀ {k:IntKind} {m:Int} {K:AV->Prop},arith g k m K->∃ v,K v/\arith g k m (fun x=>x=v):=by intro k m K hh;unfold arith at hh ⊢;cases k<;>first|exact ⟨_,hh.2,hh.1,rfl⟩|exact ⟨_,hh,rfl⟩
 have xa:∀ {t:TypeId} {cs:List AV} {K:AV->Prop},gv P t cs K->∃ v,K v/\gv P t cs (fun x=>x=v):=by
  intro t cs K hh;unfold gv at hh ⊢
  (repeat' split at hh)<;>first|exact ⟨_,hh,rfl⟩|exact hh.elim
 have JI:∀ {t:TypeId} {op:BinOp} {x y:AV} {K:AV->Prop},tO P g t op x y K->∃ v,K v/\tO P g t op x y (fun x=>x=v):=by
  intro t op x y K;unfold tO;simp only [pj];repeat' split
  all_goals first
   | exact fun hh=>hh.elim
   | exact fun hh=>⟨_,hh,rfl⟩
   | exact fun hh=>⟨_,hh.2,hh.1,rfl⟩
   | exact fun hh=>let ⟨v,h1,h2⟩:=sW hh.2;⟨v,h1,hh.1,h2⟩
   | exact fun hh=>let ⟨v,h1,h2⟩:=sW hh.2.2;⟨v,h1,hh.1,hh.2.1,h2⟩
   | exact fun hh=>⟨_,hh.2.2,hh.1,hh.2.1,rfl⟩
 have hlen:∀ {d:Option TypeDesc} {x:AV} {K:AV->Prop},tQ d x K->∃ v,K v/\tQ d x (fun x=>x=v):=by
  intro d x K;unfold tQ;repeat' split
  all_goals first
   | exact fun hh=>hh.elim
   | exact fun hh=>⟨_,hh,rfl⟩
 have fl:∀ {x:AV} {lo hi:Int} {b:Bool} {K:AV->Prop},po g x lo hi b K->∃ v,K v/\po g x lo hi b (fun x=>x=v):=by
  intro x lo hi b K;unfold po;repeat' split
  all_goals first
   | exact fun hh=>hh.elim
   | exact fun hh=>⟨_,hh.2,hh.1,rfl⟩
 have lV:∀ {s:TypeId} {xs:List (List AV)} {K:AV->Prop},uR P s xs K->∃ v,K v/\uR P s xs (fun x=>x=v):=by
  intro s xs K;unfold uR;repeat' split
  all_goals first
   | exact fun hh=>hh.elim
   | exact fun ⟨ns,h1,hh⟩=>⟨_,hh,ns,h1,rfl⟩
 revert hq;unfold bH;repeat' split
 all_goals first
  | exact fun hh=>hh.elim
  | exact fun hh=>⟨_,hh,rfl⟩
  | exact lV
  | exact xa
  | exact sW
  | exact JI
  | exact hlen
  | exact fl
  | exact fun ⟨cs,l,h1,h2,hq⟩=>let ⟨v,k1,k2⟩:=xa hq;⟨v,k1,cs,l,h1,h2,k2⟩
  | exact fun ⟨j,y,h1,hq⟩=>⟨_,hq,j,y,h1,rfl⟩
  | exact fun ⟨es,v,f,h1,h2,hq⟩=>⟨_,hq,es,v,f,h1,h2,rfl⟩
  | exact fun ⟨j,l,h1,h2,hq⟩=>⟨_,hq,j,l,h1,h2,rfl⟩
  | exact fun ⟨h1,hq⟩=>⟨_,hq,h1,rfl⟩
  | exact fun ⟨j,h1,hq⟩=>⟨_,hq,j,h1,rfl⟩
theorem FR {t:Nat}:∀ {xs:List Operand},Operand.tmp t∈xs->t∈ru xs
 | x::xs,h=>by
   rcases List.mem_cons.1 h with rfl|h
   ·simp [ru]
   have:=FR h;cases x<;>simp [ru,this]
theorem JJ {r1 r2:aC} {g:G} {x:Operand} (h:∀ t,x=.tmp t->bl r1 t=bl r2 t):aL r1 g x=aL r2 g x:=by
 cases x with
 | tmp t=>simp only [aL,h t rfl]
 | _=>rfl
theorem Dd {r1 r2:aC} {g:G}:∀ {xs:List Operand},(∀ x∈xs,aL r1 g x=aL r2 g x)->bQ r1 g xs=bQ r2 g xs
 | [],_=>rfl
 | x::xs,h=>by unfold bQ;rw [h x (by simp),Dd fun y hy=>h y (by simp [hy])]
theorem Pa {r1 r2:aC} {g:G}:∀ {xs:List (Nat × Operand)},(∀ x∈xs.map (·.2),aL r1 g x=aL r2 g x)->partsOf r1 g xs=partsOf r2 g xs
 | [],_=>rfl
 | (i,x)::xs,h=>by unfold partsOf;rw [h x (by simp),Pa fun y hy=>h y (by simp only [List.map_cons,List.mem_cons];exact .inr hy)]
theorem FT {r1 r2:aC} {g:G} {size:Nat}:∀ {xs:List (Nat × Operand)} {k:Nat},(∀ x∈xs.map (·.2),aL r1 g x=aL r2 g x)->iA r1 g size k xs=iA r2 g size k xs
 | [],_,_=>rfl
 | (i,x)::xs,k,h=>by unfold iA;rw [h x (by simp),FT fun y hy=>h y (by simp only [List.map_cons,List.mem_cons];exact .inr hy)]
theorem Pb {r1 r2:aC} {g:G} {x:Option Operand} {d:Int} (h:∀ y,x=some y->aL r1 g y=aL r2 g y):pq r1 g x d=pq r2 g x d:=by
 cases x with
 | none=>rfl
 | some y=>simp only [pq,h y rfl]
theorem Pc {r1 r2:aC} {g:G} {K:AV->Prop} {op:Op} (h':∀ t∈ru op.operands.toList,bl r1 t=bl r2 t) (hq:bH P r1 g h K op):bH P r2 g h K op:=by
 have hx:∀ g,∀ x∈op.operands.toList,aL r1 g x=aL r2 g x:=by intro g x hx;exact JJ fun t ht=>h' t (FR (ht ▸ hx))
 clear h';cases op
 case pick c x y=>
  have h1:=fun g=>hx g c (by simp [Op.operands]);have h2:=fun g=>hx g x (by simp [Op.operands]);have h3:=fun g=>hx g y (by simp [Op.operands]);clear hx;revert hq;unfold bH;split;all_goals first|exact fun hh=>hh.elim|skip
  all_goals simp_all
 case call cl=>
  have jF:∀ g,bQ r1 g cl.args.toList=bQ r2 g cl.args.toList:=fun g=>Dd fun x iU=>hx g x (by simp [Op.operands,Call.operands];exact .inr (by simpa using iU));have cU:∀ g t,cl.callee=.value (.tmp t)->aL r1 g (.tmp t)=aL r2 g (.tmp t):=fun g t ht=>hx g _ (by simp [Op.operands,Call.operands,ht]);clear hx;revert hq;unfold bH;simp only [jF];split;all_goals first|exact fun hh=>hh|skip
  rename_i t ht;rw [cU _ _ ht];exact fun hh=>hh
 case build t ps=>
  simp only [bH] at hq ⊢;rw [<- Pa (r1:=r1) (fun x iU=>hx g x (by simpa [Op.operands] using iU))];exact hq
 case buildSlice t m ps=>
  simp only [bH] at hq ⊢;revert hq;split
  ·rw [<- FT (r1:=r1) (fun x iU=>hx g x (by simpa [Op.operands] using iU))];exact fun hh=>hh
  exact fun hh=>hh
 case makeFunc f first bP=>
  have jF:∀ g,bQ r1 g bP.toList=bQ r2 g bP.toList:=fun g=>Dd fun x iU=>hx g x (by simp [Op.operands];exact .inr (by simpa using iU));cases f<;>simp only [bH] at hq ⊢<;>first|exact hq|skip
  rw [<- jF];exact hq
 case slice t x lo hi mx=>
  cases mx<;>simp only [bH] at hq ⊢<;>try exact hq
  rw [<- hx g x (by simp [Op.operands])];have h2:∀ d,pq r1 g lo d=pq r2 g lo d:=fun d=>Pb fun y hy=>hx g y (by subst hy;simp [Op.operands]);have h3:∀ d,pq r1 g hi d=pq r2 g hi d:=fun d=>Pb fun y hy=>hx g y (by subst hy;simp [Op.operands]);simp only [<- h2,<- h3];exact hq
 case makeMap t rr=>simp [bH] at hq
 case unOp o t x=>
  have h1:=hx g x (by simp [Op.operands]);cases o<;>first|(simp [bH] at hq;done)|(simp only [bH] at hq ⊢;rw [<- h1];exact hq)
 all_goals first
  | (simp [bH] at hq;done)
  | (simp only [Op.operands] at hx
     simp only [bH] at hq ⊢
     (try simp at hx)
     (try simp only [hx] at hq)
     exact hq)
theorem JK {g:G} {K:AV->Prop} {op:Op} (hf:rv r g op=true) {h':af} (hq:bH P r g h K op):bH P r g h' K op:=by
 cases op
 case load t x=>
  simp only [bH,rv] at hq hf ⊢;split at hf
  ·rename_i cs hx;simp only [hx] at hq ⊢;exact hq
  cases hf
 case call cl=>
  unfold rv at hf;simp only at hf;split at hf
  ·rename_i b hb;unfold bH at hq ⊢;simp only [hb] at hq ⊢;cases b<;>exact hq
  cases hf
 case pick c x y=>
  revert hq;unfold bH;split;all_goals first|exact fun hh=>hh|contradiction|(rename_i hh;cases hh)
 case lookup t x i ok=>simp [rv] at hf
 case unOp o t x=>cases o<;>first|(simp [bH] at hq;done)|(simp only [bH] at hq ⊢;exact hq)
 case slice t x lo hi mx=>cases mx<;>first|(simp [bH] at hq;done)|(simp only [bH] at hq ⊢;exact hq)
 case makeFunc f first bP=>cases f<;>first|(simp [bH] at hq;done)|(simp only [bH] at hq ⊢;exact hq)
 all_goals first|exact hq|(simp [bH] at hq;done)
end Go.Abs
