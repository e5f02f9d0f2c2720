/- What is proved: small laws for the walks of this seat, and contracts of its functions. No condition but those each theorem names. -/
import Derived.Test.YtbmcnieifibckaaGreatN1
import Derived.Laws.OwnMore
import Derived.Carry
import Derived.Laws.IdiomRangeMap
import Derived.Lib.AppendZerosOnto
import Derived.Laws.RangeAny
/-
 The abstract fB,part F: the DH that make or NN own objects.
-/
set_option linter.unusedVariables false
set_option linter.unusedSimpArgs false
namespace Go.Abs
open Go
variable {P:Program} {n:Nat} {X:Nat->Prop} {g0:Gh} {r:aC} {h:ab} {a:Act} {w:World}
def Gh.set (g:Gh) (k:Nat) (p:Option Addr) (b:Option (Nat × Nat)):Gh where
 pl:=fun k'=>if k'=k then p else g.pl k'
 ow:=fun b'=>match b with
  | some (bb,s)=>if b'=bb then some (k,s) else g.ow b'
  | none=>g.ow b'
theorem CW.fresh (hc:CW X g0 h w):∃ k,¬ X k/\k ∉ keys h/\g0.pl k=none/\∀ b s,g0.ow b≠some (k,s):=by
 obtain ⟨N,hN⟩:=hc.bound;refine ⟨N,fun hx=>?_,fun hk=>?_,?_,fun b s hb=>?_⟩
 ·exact absurd (hN N (.inl hx)) (Nat.lt_irrefl _)
 ·exact absurd (hN N (.inr (.inl hk))) (Nat.lt_irrefl _)
 ·cases hp:g0.pl N with
  | none=>rfl
  | some p=>exact absurd (hN N (.inr (.inr (.inl (by simp [hp]))))) (Nat.lt_irrefl _)
 exact absurd (hN N (.inr (.inr (.inr ⟨b,s,hb⟩)))) (Nat.lt_irrefl _)
theorem CW.newAt (hc:CW X g0 h w) (o:Obj) (s:Nat):∃ k,k ∉ keys h/\¬ X k /\
  (∀ ob,Step X g0 h w (g0.set k (some ⟨w.heap.size,s,none⟩) (some (w.heap.size,s))) ((k,ob)::h) (w.alloc o)) /\
  ∀ ob,nU ⟨g0.set k (some ⟨w.heap.size,s,none⟩) (some (w.heap.size,s)),live X ((k,ob)::h),w.alloc o⟩ k ob ->
   CW X (g0.set k (some ⟨w.heap.size,s,none⟩) (some (w.heap.size,s))) ((k,ob)::h) (w.alloc o):=by
 obtain ⟨k,f1,f2,f3,f4⟩:=hc.fresh
 have aA:∀ ob,Step X g0 h w (g0.set k (some ⟨w.heap.size,s,none⟩) (some (w.heap.size,s))) ((k,ob)::h) (w.alloc o):=by
  intro ob;refine ⟨rfl,⟨rfl,Nat.le_refl _⟩,rfl,by simp,?_,?_,?_,?_,?_,?_,?_⟩
  ·intro k' p hp;simp only [Gh.set];split
   ·rename_i e;subst e;rw [f3] at hp;cases hp
   exact hp
  ·intro b k' s' hb hx;simp only [Gh.set];split
   ·rename_i e;subst e;exact absurd (hc.own _ _ _ hb) (Nat.lt_irrefl _)
   exact hb
  ·intro b k' s' hb hx;simp only [Gh.set] at hb;split at hb
   ·cases hb;exact absurd hx f1
   exact hb
  ·intro k' hx hp;simp only [Gh.set];split
   ·rename_i e;subst e;exact absurd hx f1
   exact hp
  ·intro b hb pd;refine ⟨yZ w o hb,fun k' s' fX bk=>?_⟩;simp only [Gh.set] at fX;split at fX
   ·omega
   simp [keys] at bk;rcases bk with rfl|⟨x,hx⟩
   ·exact f4 _ _ fX
   exact pd k' s' fX (by simp [keys];exact ⟨x,hx⟩)
  ·intro b k' s' hb bk cc t f bA;exact ⟨cc,(yZ w o (hc.own _ _ _ hb)).trans bA,rfl,fun _ _=>rfl⟩
  intro b k' s' hb bk UT xi tH _;simp only [Gh.set] at tH;split at tH
  ·rename_i e;subst e;exact absurd (hc.own _ _ _ hb) (Nat.lt_irrefl _)
  rw [hb] at tH;cases tH;exact Nat.le_refl _
 refine ⟨k,f2,f1,aA,fun ob jm=>⟨?_,?_,?_,?_,?_⟩⟩
 ·intro b k' s' hb;simp only [Gh.set] at hb;split at hb
  ·rename_i e;subst e;simp
  have:=hc.own _ _ _ hb;simp;omega
 ·obtain ⟨N,hN⟩:=hc.bound;refine ⟨max N (k+1),fun k' bk=>?_⟩;by_cases e:k'=k
  ·subst e;omega
  have:k'<N:=by
   rcases bk with hx|bk|hp|⟨b,s',hb⟩
   ·exact hN _ (.inl hx)
   ·simp [keys,e] at bk;obtain ⟨x,hx⟩:=bk;exact hN _ (.inr (.inl (by simp [keys];exact ⟨x,hx⟩)))
   ·simp only [Gh.set,e,if_false] at hp;exact hN _ (.inr (.inr (.inl hp)))
   simp only [Gh.set] at hb;split at hb
   ·cases hb;exact absurd rfl e
   exact hN _ (.inr (.inr (.inr ⟨b,s',hb⟩)))
  omega
 ·simp only [keys,List.map_cons,List.nodup_cons];exact ⟨f2,hc.nodup⟩
 ·intro k' bk;simp [keys] at bk;rcases bk with rfl|⟨x,hx⟩
  ·exact f1
  exact hc.sep k' (by simp [keys];exact ⟨x,hx⟩)
 intro k' o' hm;rcases List.mem_cons.1 hm with e|hm
 ·cases e;exact jm
 have bk:k'∈keys h:=by simp [keys];exact ⟨o',hm⟩
 have aI:k'≠k:=fun e=>f2 (e ▸ bk);refine nU.mw (c:=⟨g0,live X h,w⟩) (Step.le (aA ob)) (hc.obj k' o' hm) ?_ ?_
 ·intro p hp ⟨s',ho⟩;have aL:=hc.own _ _ _ ho;refine ⟨yZ w o aL,?_⟩;simp only [Gh.set];rw [if_neg (by omega)]
 intro hp;simp only [Gh.set,aI,if_false];exact hp
theorem BO {g:G} {K:AV->Prop} {op:Op} (hq:bI P r g h K op):∃ v,K v:=by
 have sf:∀ {k:IntKind} {m:Int} {K:AV->Prop},arith g k m K->∃ v,K v:=by intro k m K hh;unfold arith at hh;cases k<;>first|exact ⟨_,hh.2⟩|exact ⟨_,hh⟩
 have wi:∀ {t:TypeId} {cs:List AV} {K:AV->Prop},fZ P t cs K->∃ v,K v:=by
  intro t cs K hh;unfold fZ at hh
  (repeat' split at hh)<;>first|exact ⟨_,hh⟩|exact hh.elim
 unfold bI at hq;split at hq;all_goals (repeat' split at hq)
 all_goals first
  | exact hq.elim
  | exact ⟨_,hq⟩
  | exact wi hq
  | exact sf hq
  | (obtain ⟨cs,l,_,_,hq⟩:=hq;exact wi hq)
  | (obtain ⟨j,y,_,hq⟩:=hq;exact ⟨_,hq⟩)
  | (obtain ⟨es,v,f,_,_,hq⟩:=hq;exact ⟨_,hq⟩)
  | (obtain ⟨j,l,_,_,hq⟩:=hq;exact ⟨_,hq⟩)
  | exact ⟨_,hq.2⟩
  | (obtain ⟨j,_,hq⟩:=hq;exact ⟨_,hq⟩)
  | (unfold sV at hq;simp only [oJ] at hq;(repeat' split at hq)<;>first|exact hq.elim|exact ⟨_,hq⟩|(split at hq<;>first|exact hq.elim|exact ⟨_,hq.2⟩)|exact ⟨_,hq.2⟩|exact sf hq.2|exact sf hq.2.2|exact ⟨_,hq.2.2⟩)
  | (unfold sX at hq;(repeat' split at hq)<;>first|exact hq.elim|exact ⟨_,hq⟩)
  | (unfold oM at hq;(repeat' split at hq)<;>first|exact hq.elim|exact ⟨_,hq.2⟩)
  | (unfold ud at hq;(repeat' split at hq)<;>first|exact hq.elim|(obtain ⟨ns,_,hq⟩:=hq;exact ⟨_,hq⟩))
theorem cH.split {b b':Nat} {o o':Ob}:∀ {h h':ab},cH b o b' o' h h'->∃ l1 l2,h=l1++(b,o)::l2/\h'=l1++(b',o')::l2
 | _,_,.here l=>⟨[],l,rfl,rfl⟩
 | _,_,.there (x:=x) u=>by obtain ⟨l1,l2,rfl,rfl⟩:=cH.split u;exact ⟨x::l1,l2,rfl,rfl⟩
theorem aK.split {b:Nat} {o:Ob}:∀ {h h':ab},aK b o h h'->∃ l1 l2,h=l1++(b,o)::l2/\h'=l1++l2
 | _,_,.here l=>⟨[],l,rfl,rfl⟩
 | _,_,.there (x:=x) u=>by obtain ⟨l1,l2,rfl,rfl⟩:=aK.split u;exact ⟨x::l1,l2,rfl,rfl⟩
theorem tI (l1 l2:ab) (b:Nat) (o:Ob):keys (l1++(b,o)::l2)=keys l1++b::keys l2:=by simp [keys]
theorem iQ (l1 l2:ab) (b:Nat) (o:Ob) (k:Nat):k∈keys (l1++(b,o)::l2)↔k=b\/k∈keys (l1++l2):=by rw [tI];simp only [keys,List.map_append,List.mem_append,List.mem_cons];exact or_left_comm
theorem CW.replace {l1 l2:ab} {b b':Nat} {o o':Ob} (hc:CW X g0 (l1++(b,o)::l2) w) {g':Gh} {w':World}
  (aA:Step X g0 (l1++(b,o)::l2) w g' (l1++(b',o')::l2) w')
  (Ij:∀ aS k s,g'.ow aS=some (k,s)->aS<w'.heap.size)
  (fX:b'=b\/(¬ X b'/\b' ∉ keys (l1++(b,o)::l2)))
  (qW:∀ k,g'.pl k≠none->k=b'\/g0.pl k≠none) (jm:∀ aS s k,g'.ow aS=some (k,s)->k=b'\/∃ aS s,g0.ow aS=some (k,s))
  (UU:∀ aS k s,g0.ow aS=some (k,s)->k∈keys (l1++l2)->w'.heap[aS]?=w.heap[aS]?/\g'.ow aS=g0.ow aS)
  (cG:nU ⟨g',live X (l1++(b',o')::l2),w'⟩ b' o'):CW X g' (l1++(b',o')::l2) w':=by
 have dZ:=hc.nodup;rw [tI] at dZ;have si:=iQ l1 l2 b' o';have EA:=iQ l1 l2 b o
 have mB:b ∉ keys (l1++l2):=by
  have:=dZ;simp only [List.nodup_append,List.nodup_cons] at this;intro hm;simp only [keys,List.map_append,List.mem_append] at hm;rcases hm with hm|hm
  ·exact this.2.2 b hm b (by simp) rfl
  exact this.2.1.1 hm
 have Ik:b' ∉ keys (l1++l2):=by
  rcases fX with rfl|⟨_,fX⟩
  ·exact mB
  intro hm;exact fX ((EA b').2 (.inr hm))
 refine ⟨Ij,?_,?_,?_,?_⟩
 ·obtain ⟨N,hN⟩:=hc.bound;refine ⟨max N (b'+1),fun k hk=>?_⟩;by_cases e:k=b'
  ·omega
  have:k<N:=by
   rcases hk with hx|hk|hp|⟨aS,s,im⟩
   ·exact hN _ (.inl hx)
   ·exact hN _ (.inr (.inl ((EA k).2 (.inr (((si k).1 hk).resolve_left e)))))
   ·exact hN _ (.inr (.inr (.inl ((qW k hp).resolve_left e))))
   exact hN _ (.inr (.inr (.inr ((jm aS s k im).resolve_left e))))
  omega
 ·rw [tI];have h1:=dZ;simp only [List.nodup_append,List.nodup_cons] at h1 ⊢;have te:b' ∉ keys l1:=fun hm=>Ik (by simp [keys] at hm ⊢;exact .inl hm);have vK:b' ∉ keys l2:=fun hm=>Ik (by simp [keys] at hm ⊢;exact .inr hm);refine ⟨h1.1,⟨vK,h1.2.1.2⟩,fun x hx y hy=>?_⟩;rcases List.mem_cons.1 hy with rfl|hy
  ·intro e;subst e;exact te hx
  exact h1.2.2 x hx y (by simp [hy])
 ·intro k hk;rcases (si k).1 hk with rfl|hk
  ·rcases fX with rfl|⟨fX,_⟩
   ·exact hc.sep _ ((EA _).2 (.inl rfl))
   exact fX
  exact hc.sep k ((EA k).2 (.inr hk))
 intro k ok hm;have yc:(k,ok)=(b',o')\/(k,ok)∈l1++l2:=by simp only [List.mem_append,List.mem_cons] at hm ⊢;exact or_left_comm.1 hm
 rcases yc with e|yc
 ·cases e;exact cG
 have hk:k∈keys (l1++l2):=by simp only [keys,List.mem_map];exact ⟨_,yc,rfl⟩
 have cn:(k,ok)∈l1++(b,o)::l2:=by simp only [List.mem_append,List.mem_cons] at yc ⊢;exact yc.elim .inl (fun h=>.inr (.inr h))
 refine nU.mw (c:=⟨g0,live X (l1++(b,o)::l2),w⟩) (Step.le aA) (hc.obj k ok cn) (fun p hp ⟨s,ho⟩=>UU _ _ _ ho hk) (fun hp=>?_);by_cases e:k=b'
 ·exact absurd (e ▸ hk) Ik
 cases hq:g'.pl k with
 | none=>rfl
 | some p=>exact absurd hp ((qW k (by simp [hq])).resolve_left e)
theorem BP (b:Nat):∀ (vs:List Value) (o:Nat) (w:World) (cc:Array Value) (t:TypeId) (f:Nat × Nat),w.heap[b]?=some (.cells cc t f)->o+vs.length<=cc.size ->
  ∃ ej,(w.setCells b o vs).heap[b]?=some (.cells ej t f)/\ej.size=cc.size/\(∀ j,j<o\/o+vs.length<=j->ej[j]?=cc[j]?)/\(∀ j (hj:j<vs.length),ej[o+j]?=some vs[j]) /\
   (∀ b',b'≠b->(w.setCells b o vs).heap[b']?=w.heap[b']?)/\(w.setCells b o vs).heap.size=w.heap.size/\(w.setCells b o vs).os=w.os/\((w.setCells b o vs).tape=w.tape/\w.drawn<=(w.setCells b o vs).drawn) /\
   (w.setCells b o vs).output=w.output
 | [],o,w,cc,t,f,h,_=>⟨cc,h,rfl,fun _ _=>rfl,fun j hj=>by simp at hj,fun _ _=>rfl,rfl,rfl,⟨rfl,Nat.le_refl _⟩,rfl⟩
 | v::vs,o,w,cc,t,f,h,hle=>by
   simp only [List.length_cons] at hle;have h1:(w.setCell ⟨b,o,none⟩ v).heap[b]?=some (.cells (cc.setIfInBounds o v) t f):=by simp only [World.setCell,Array.getElem?_modify,if_true,h];rfl
   obtain ⟨ej,e1,e2,e3,e4,e5,e6,e7,e8,e9⟩:=BP b vs (o+1) (w.setCell ⟨b,o,none⟩ v) _ t f h1 (by simp;omega);refine ⟨ej,e1,by simpa using e2,fun j hj=>?_,fun j hj=>?_,fun b' fX=>?_,by simpa [World.setCells] using e6,e7,e8,e9⟩
   ·rw [e3 j (by simp only [List.length_cons] at hj;omega),Array.getElem?_setIfInBounds_ne (by simp only [List.length_cons] at hj;omega)]
   ·cases j with
    | zero=>
      rw [e3 (o+0) (by omega)];simp [Array.getElem?_setIfInBounds,show o<cc.size from by omega]
    | succ j=>
      have:=e4 j (by simpa using hj);rw [show o+(j+1)=o+1+j from by omega];simpa using this
   show ((w.setCell ⟨b,o,none⟩ v).setCells b (o+1) vs).heap[b']?=_;rw [e5 b' fX];exact heap_setCell_other w _ b' v fX
theorem NO {t:TypeId} {b o:Nat} {u:Value} {cc:Array Value} {ty:TypeId} (hs:u.cells.size=P.cellsOf t) (hi:0<P.cellsOf t) (hb:w.heap[b]?=some (.cells cc ty (0,0))) (hle:o+u.cells.size<=cc.size)
  (h1:∀ x∈u.cells,x.oneCell'=true):(Instr.storeAt t (.pointer (some ⟨b,o,none⟩)) u).run P w=.ok () (w.setCells b o u.cells.toList):=by
 have bO:∃ i,P.info? t=some i:=by
  cases bO:P.info? t with
  | none=>simp [Program.cellsOf,bO] at hi
  | some i=>exact ⟨i,rfl⟩
 obtain ⟨i,bO⟩:=bO
 have aA:=run_storeCells_cells (P:=P) b o u.cells.toList 0 w
  (fun j hj=>by
    simp only [Nat.add_zero];rw [cell_of_row w b (o+j) cc ty _ hb];have:o+j<cc.size:=by simp at hj;omega
    simp [this])
  (fun j hj=>frozen_of_row w b _ cc ty hb) (fun v hv=>h1 v (by simpa using hv))
 simp only [Nat.add_zero] at aA;simp [Instr.storeAt,Instr.sureAddr,storeVar,oQ bO,hs,aA]
theorem CW.sj {l1 l2:ab} {b:Nat} {o:Ob} (hc:CW X g0 (l1++(b,o)::l2) w):b ∉ keys (l1++l2):=by
 have:=hc.nodup;rw [tI] at this;simp only [List.nodup_append,List.nodup_cons] at this;intro hm;simp only [keys,List.map_append,List.mem_append] at hm;rcases hm with hm|hm
 ·exact this.2.2 b hm b (by simp) rfl
 exact this.2.1.1 hm
theorem UW (cs:List AV) (o:Nat) (l:List AV) (hle:o+l.length<=cs.length) (i:Nat) :
  (cY cs o l)[i]?=if o<=i/\i<o+l.length then l[i - o]? else cs[i]?:=by
 unfold cY;by_cases h1:i<o
 ·rw [if_neg (by omega),List.append_assoc,List.getElem?_append_left (by simp;omega),List.getElem?_take_of_lt h1]
 by_cases h2:i<o+l.length
 ·rw [if_pos ⟨by omega,h2⟩,List.append_assoc,List.getElem?_append_right (by simp;omega),List.getElem?_append_left (by simp;omega)];congr 1;simp;omega
 rw [if_neg (by omega),List.getElem?_append_right (by simp;omega),List.getElem?_drop];congr 1;simp;omega
theorem Ht (cs:List AV) (o:Nat) (l:List AV) (hle:o+l.length<=cs.length):(cY cs o l).length=cs.length:=by unfold cY;simp;omega
theorem EB {l1 l2:ab} {b:Nat} {cs l:List AV} {o:Nat} {us:List Value} (hc:CW X g0 (l1++(b,.vec cs)::l2) w) (hle:o+l.length<=cs.length)
  (ba:av ⟨g0,live X (l1++(b,.vec cs)::l2),w⟩ l us) (ho:∀ u∈us,u.oneCell'=true) :
  ∃ p cc t,g0.pl b=some p/\p.spot=none/\w.heap[p.block]?=some (.cells cc t (0,0))/\p.off+o+us.length<=cc.size /\
   CW X g0 (l1++(b,.vec (cY cs o l))::l2) (w.setCells p.block (p.off+o) us) /\
   Step X g0 (l1++(b,.vec cs)::l2) w g0 (l1++(b,.vec (cY cs o l))::l2) (w.setCells p.block (p.off+o) us):=by
 have jm:=hc.obj b (.vec cs) (by simp);obtain ⟨p,cc,t,h1,h2,h3,h4,h5,h6⟩:=jm;simp only at h1 h3 h4;have hlen:=ba.length;have gi:p.off+o+us.length<=cc.size:=(by omega);obtain ⟨ej,e1,e2,e3,e4,e5,e6,e7,e8,e9⟩:=BP p.block us (p.off+o) w cc t (0,0) h4 gi;have im:b∈keys (l1++(b,.vec cs)::l2):=by rw [iQ];exact .inl rfl
 have aA:Step X g0 (l1++(b,.vec cs)::l2) w g0 (l1++(b,.vec (cY cs o l))::l2) (w.setCells p.block (p.off+o) us):=by
  refine ⟨e7,e8,e9,by omega,fun _ _ e=>e,fun _ _ _ e _=>e,fun _ _ _ e _=>e,fun _ _ e=>e,?_,?_,?_⟩
  ·intro aS hb hn;have aI:aS≠p.block:=fun e=>hn b 0 (e ▸ h3) im;refine ⟨e5 aS aI,fun k s hk hm=>hn k s hk ?_⟩;rw [iQ] at hm ⊢;exact hm
  ·intro aS k s hk hm dd tt ff eE;by_cases e:aS=p.block
   ·subst e;rw [h3] at hk;cases hk
    rw [h4] at eE;cases eE
    exact ⟨ej,e1,e2,fun o ho=>by omega⟩
   exact ⟨dd,(e5 aS e).trans eE,rfl,fun _ _=>rfl⟩
  intro aS k s hk _ k' s' bk _;rw [hk] at bk;cases bk;exact Nat.le_refl _
 refine ⟨p,cc,t,h1,h2,h4,gi,?_,aA⟩;refine hc.replace aA (fun aS k s hk=>by have:=hc.own _ _ _ hk;omega) (.inl rfl) (fun k hk=>.inr hk) (fun aS s k hk=>.inr ⟨aS,s,hk⟩) ?_ ?_
 ·intro aS k s hk hm
  have aI:aS≠p.block:=by
   intro e;rw [e,h3] at hk;cases hk
   exact hc.sj hm
  exact ⟨e5 aS aI,rfl⟩
 refine ⟨p,ej,t,h1,h2,h3,e1,by rw [Ht _ _ _ hle];omega,?_⟩;intro i x hx;rw [UW _ _ _ hle] at hx;split at hx
 ·rename_i hi;obtain ⟨u,hu,hr⟩:=ba.get _ _ hx;have aL:i - o<us.length:=(by omega);refine ⟨u,?_,ho u (List.mem_of_getElem? hu),aa.mono (Step.le aA) _ _ hr⟩;have:=e4 (i - o) aL;rw [show p.off+o+(i - o)=p.off+i from by omega] at this;rw [this,<- hu,List.getElem?_eq_getElem aL]
 rename_i hi;obtain ⟨u,hu,bD,hr⟩:=h6 i x hx;exact ⟨u,by rw [e3 _ (by omega)];exact hu,bD,aa.mono (Step.le aA) _ _ hr⟩
end Go.Abs
/-
 The abstract fB,part G: append,make,and all DH that make or NN own objects.
-/
namespace Go.Abs
open Go
variable {P:Program} {n:Nat} {X:Nat->Prop} {g0:Gh} {r:aC} {h:ab} {a:Act} {w:World}
theorem NP {tx:TypeId} (h:rD P tx=true):∃ d,P.underlying tx=some d/\((∃ e,d=.slice e)\/d=.string):=by
 unfold rD at h;cases hu:P.underlying tx with
 | none=>simp [hu] at h
 | some d=>cases d<;>simp [hu] at h<;>simp
theorem zA {t tx ty e:TypeId} {i:TypeInfo} (ht:P.underlying t=some (.slice e)) (eK:rD P tx=true) (hi:P.info? e=some i)
  {base:Option Addr} {gB mh m:Nat} {ux:Value} {news:List Value}
  (hl:∀ w',(Builtin.lenOf ux).run P w'=.ok m w') (hf:(Builtin.firstCells i.size m ux).run P w=.ok news.toArray w) (jB:gB+m<=mh)
  {w':World} (aA:∀ a,base=some a->(storeCells (a.add (gB*i.size)) news).run P w=.ok () w') (hn:base=none->w'=w) :
  (Builtin.append_ #[t,tx] ty #[.slice base gB mh,ux]).run P w=.ok (.slice base (gB+m) mh) w':=by
 obtain ⟨d,hd,cU⟩:=NP eK;have hz:((match (d:TypeDesc) with|.int _=>true|_=>false):Bool)=false:=by rcases cU with ⟨e,rfl⟩|rfl<;>rfl
 cases base with
 | none=>
   have:=hn rfl;subst this;rcases cU with ⟨e',rfl⟩|rfl<;>simp [Builtin.append_,run_underlying ht,run_underlying hd,sizeOf,typeInfo,hi,hl,jB,hf]
 | some b=>
   have:=aA b rfl;rcases cU with ⟨e',rfl⟩|rfl<;>simp [Builtin.append_,run_underlying ht,run_underlying hd,sizeOf,typeInfo,hi,hl,jB,hf,this]
theorem yd {t tx ty e:TypeId} {i:TypeInfo} {z:Value} (ht:P.underlying t=some (.slice e)) (eK:rD P tx=true) (hi:P.info? e=some i) (hz:i.zero=some z)
  {base:Option Addr} {gB mh m:Nat} {ux:Value} {di news:List Value}
  (hl:∀ w',(Builtin.lenOf ux).run P w'=.ok m w') (hf:(Builtin.firstCells i.size m ux).run P w.drew=.ok news.toArray w.drew)
  (ho:(Builtin.firstCells i.size gB (.slice base gB mh)).run P w.drew=.ok di.toArray w.drew) (hg:mh<gB+m) (dL:gB+m<=aV) (hb:i.bytes<=4096) :
  (Builtin.append_ #[t,tx] ty #[.slice base gB mh,ux]).run P w =
    .ok (.slice (some ⟨w.heap.size,0,none⟩) (gB+m) (grownCap w (gB+m) mh e))
     (w.drew.alloc (.cells ((di++news).toArray++Builtin.zeroCells z.cells (grownCap w (gB+m) mh e - (gB+m))) e)):=by
 obtain ⟨d,hd,cU⟩:=NP eK;have e0:∀ Z:Array Value,di.toArray++(news.toArray++Z)=(di++news).toArray++Z:=by intro Z;rw [<- Array.append_assoc];simp
 unfold aV at dL;have hn:¬ (gB+m<=mh):=(by omega);have UX:¬ (9223372036854775807<((gB:Int)+(m:Int))):=(by omega);have gi:Builtin.nextslicecap (gB+m) mh*i.bytes<=281474976710656:=by have h1:Builtin.nextslicecap (gB+m) mh<=2*(gB+m):=nextslicecap_le hg;exact Nat.le_trans (Nat.mul_le_mul h1 hb) (by omega)
 have UY:¬ (281474976710656<Builtin.nextslicecap (gB+m) mh*i.bytes):=(by omega);have zB:(Builtin.firstCells i.size m ux).run P { w with drawn:=w.drawn+1 }=.ok news.toArray { w with drawn:=w.drawn+1 }:=hf;have bD:(Builtin.firstCells i.size gB (.slice base gB mh)).run P { w with drawn:=w.drawn+1 }=.ok di.toArray { w with drawn:=w.drawn+1 }:=ho
 rcases cU with ⟨e',rfl⟩|rfl <;>
  (simp [Builtin.append_,run_underlying ht,run_underlying hd,sizeOf,typeInfo,zeroValue,hi,hz,hl,hn,UX,UY,Question.forced,hf,ho,newRow,grownCap];rw [e0])
theorem wj {k:Nat} {y:AV} {ys:List (List AV)} {u:Value} {c:Cx} (h:qG k y=some ys) (hu:aa c y u) :
  ∃ news:List Value,(∀ w',(Builtin.lenOf u).run P w'=.ok ys.length w')/\(∀ w':World,w'.heap=c.w.heap->(Builtin.firstCells k ys.length u).run P w'=.ok news.toArray w') /\
   av c ys.flatten news/\(∀ x∈ys,x.length=k)/\(∀ v∈news,v.oneCell'=true):=by
 unfold qG at h;split at h
 ·rename_i k' q xs;split at h<;>try contradiction
  rename_i hk;have hk:=Nat.eq_of_beq_eq_true hk;cases h
  subst hk;simp only [aa] at hu;obtain ⟨base,cap,rfl,e1,e2,e3,e4,e5,e6,e7⟩:=hu;cases base with
  | none=>
    have hx:ys=[]:=List.eq_nil_of_length_eq_zero (by have:=e4 rfl;omega);subst hx;exact ⟨[],fun w'=>by simp [Builtin.lenOf],fun w' _=>by simp [Builtin.firstCells],by simp [av],by simp,by simp⟩
  | some ad=>
    obtain ⟨f1,f2⟩:=cm.toFlat (e6 ad rfl);obtain ⟨us,g1,g2,g3⟩:=bz.load f2;refine ⟨us,fun w'=>by simp [Builtin.lenOf],fun w' hw=>?_,g3,f1,fun v hv=>?_⟩
    ·refine run_firstCells_some w' k' ys.length ad ys.length cap us (by rw [g1,kZ f1]) (fun j v hj=>?_);have:=(g2 j v hj).1;have hs:ad.spot=none:=e5 ad rfl (fun e=>by subst e;simp at g1;rw [g1] at hj;simp at hj)
     have eD:ad.add j=⟨ad.block,ad.off+j,none⟩:=by
      unfold Addr.add;split
      ·rename_i h0;rw [h0];cases ad;simp_all
      rfl
     rw [eD];simpa [World.cell?,hw] using this
    obtain ⟨j,hj⟩:=List.mem_iff_getElem?.1 hv;exact (g2 j v hj).2
 ·cases h
  simp only [aa] at hu;subst hu;exact ⟨[],fun w'=>by simp [Builtin.lenOf],fun w' _=>by simp [Builtin.firstCells],by simp [av],by simp,by simp⟩
 ·split at h<;>try contradiction
  cases h
  simp only [aa] at hu;obtain ⟨a,cap,rfl,_⟩:=hu;exact ⟨[],fun w'=>by simp [Builtin.lenOf],fun w' _=>run_firstCells_some w' k 0 a 0 cap [] (by simp) (by simp),by simp [av],by simp,by simp⟩
 ·rename_i s;split at h<;>try contradiction
  rename_i hk;have hk:=Nat.eq_of_beq_eq_true hk;cases h
  subst hk;rw [aa] at hu;obtain ⟨b,rfl,rfl,hl⟩:=hu;refine ⟨b.data.toList.map fun x=>.int .u8 (x.toNat:Int),fun w'=>?_,fun w' _=>?_,?_,by simp,?_⟩
  ·simp [Builtin.lenOf]
  ·simp [Builtin.firstCells];try exact Array.ext' (by simp)
  ·have key:∀ l:List UInt8,av c (l.map fun b=>[AV.int .u8 (b.toNat:Int)]).flatten (l.map fun x=>.int .u8 (x.toNat:Int)):=by
    intro l;induction l with
    | nil=>simp [av]
    | cons x l ih=>
      simp only [List.map_cons,List.flatten_cons,List.singleton_append,av];refine ⟨_,_,rfl,?_,ih⟩;rw [aa];have:=x.toNat_lt;exact ⟨rfl,by constructor<;>simp [IntKind.min,IntKind.max,IntKind.signed,IntKind.bits]<;>omega⟩
   exact key _
  intro v hv;simp at hv;obtain ⟨x,_,rfl⟩:=hv;rfl
 cases h
def mH (X:Nat->Prop) (g0:Gh) (h:ab) (w:World) (K:AV->ab->Prop) (d:Option Tmp) (a:Act) (next:Act->World->Prop):Prop:=
 ∀ v h' g' u w',K v h'->CW X g' h' w'->aa ⟨g',live X h',w'⟩ v u->Step X g0 h w g' h' w'->next (a.put d u) w'
theorem bz.in {c:Cx} {us:List Value} {b:Nat}:∀ {cs:List AV} {l:List Value} {o:Nat},av c cs l ->
  (∀ j u,l[j]?=some u->c.w.cell? ⟨b,o+j,none⟩=some u/\u.oneCell'=true/\c.fr b (o+j))->bz c cs b o
 | [],l,o,_,_=>by simp [bz]
 | x::cs,l,o,h,hl=>by
   simp only [av] at h;obtain ⟨u,r,rfl,h1,h2⟩:=h;simp only [bz];obtain ⟨e1,e2,e3⟩:=hl 0 u (by simp)
   exact ⟨⟨u,by simpa using e1,e2,by simpa using e3,h1⟩,bz.in (us:=us) h2 (fun j v hv=>by
    have:=hl (j+1) v (by simpa using hv);rw [show o+1+j=o+(j+1) from by omega];exact this)⟩
theorem cm.append {c:Cx} {k:Nat}:∀ {xs ys:List (List AV)} {b o:Nat},cm c k xs b o->cm c k ys b (o+xs.length*k)->cm c k (xs++ys) b o
 | [],ys,b,o,_,h=>by simpa using h
 | x::xs,ys,b,o,h,h'=>by simp only [List.cons_append,cm] at h ⊢;refine ⟨h.1,cm.append h.2 ?_⟩;simp only [List.length_cons,Nat.add_mul,Nat.one_mul] at h';rw [show o+k+xs.length*k=o+(xs.length*k+k) from by omega];exact h'
theorem NQ {K:AV->ab->Prop} {d:Option Tmp} {next:Act->World->Prop} (hc:CW X g0 h w) {xs:List (List AV)} {us:List Value} {k:Nat} {Z:Array Value} {e:TypeId} {cap:Nat}
  (ba:av ⟨g0,live X h,w⟩ xs.flatten us) (hk:∀ x∈xs,x.length=k) (h1:∀ v∈us,v.oneCell'=true) (iv:0<k) (hlen:xs.length<=aV) (GK:xs.length<=cap)
  (ia:us.length+Z.size=cap*k) (hq:∀ q,K (.sl k (some q) xs) ((q,.tok)::h)) (hn:mH X g0 h w K d a next) :
  next (a.put d (.slice (some ⟨w.heap.size,0,none⟩) xs.length cap)) (w.drew.alloc (.cells (us.toArray++Z) e)):=by
 obtain ⟨c1,s1⟩:=hc.drew;obtain ⟨q,f1,f2,st,mk⟩:=c1.newAt (.cells (us.toArray++Z) e) (xs.length*k);have ke:us.length=xs.length*k:=by rw [ba.length,kZ hk]
 have dw:=mk .tok (by
  intro p hp;simp only [Gh.set,if_true] at hp;cases hp
  exact ⟨rfl,by simp [Gh.set],us.toArray++Z,e,heap_alloc_new w.drew _⟩)
 have aA:=s1.trans hc.own (st .tok);refine hn _ _ _ _ _ (hq q) dw ?_ aA;simp only [aa];have UZ:Cx.Le ⟨g0,live X h,w⟩ _:=Step.le aA;refine ⟨_,cap,rfl,GK,by unfold aq;unfold aV at hlen;omega,iv,by simp,by simp,?_,?_⟩
 ·intro ad ha;simp at ha;subst ha;refine cm.flat hk (bz.in (us:=us) (l:=us) (av.mono UZ _ _ ba) ?_);intro j u hu;have hj:j<us.length:=(List.getElem?_eq_some_iff.1 hu).1;refine ⟨?_,h1 u (List.mem_of_getElem? hu),?_⟩
  ·show (w.drew.alloc _).cell? ⟨w.drew.heap.size,0+j,none⟩=_;rw [World.cell?_alloc_new,Nat.zero_add,Array.getElem?_append_left (by simpa using hj)];simpa using hu
  intro kk s hs _;have lf:some (q,xs.length*k)=some (kk,s):=by have h2:=hs;simp only [Gh.set] at h2;rwa [if_pos (show w.heap.size=w.drew.heap.size from rfl)] at h2
  cases lf
  show 0+j<xs.length*k;rw [<- ke];omega
 intro q' Va;cases Va
 right;refine ⟨_,rfl,rfl,by simp [Gh.set],?_⟩;refine ⟨_,_,_,heap_alloc_new w.drew _,?_⟩;simp only [Array.size_append,List.size_toArray];omega
end Go.Abs
/-
 The abstract fB,part H: all DH that make or NN own objects.
-/
namespace Go.Abs
open Go
variable {P:Program} {n:Nat} {X:Nat->Prop} {g0:Gh} {r:aC} {h:ab} {a:Act} {w:World}
theorem CW.sub {h':ab} (hc:CW X g0 h w) (gm:∀ k o,(k,o)∈h'->(k,o)∈h) (dZ:(keys h').Nodup):CW X g0 h' w/\Step X g0 h w g0 h' w:=by
 have hk:∀ k,k∈keys h'->k∈keys h:=by intro k hk;simp only [keys,List.mem_map] at hk ⊢;obtain ⟨⟨k',o⟩,hm,rfl⟩:=hk;exact ⟨_,gm _ _ hm,rfl⟩
 have aA:Step X g0 h w g0 h' w:=
  ⟨rfl,⟨rfl,Nat.le_refl _⟩,rfl,Nat.le_refl _,fun _ _ e=>e,fun _ _ _ e _=>e,fun _ _ _ e _=>e,fun _ _ e=>e,fun _ _ e=>⟨rfl,fun k s hb hm=>e k s hb (hk k hm)⟩,
    fun _ _ _ _ _ cc _ _ e=>⟨cc,e,rfl,fun _ _=>rfl⟩,fun _ _ _ e _ _ _ e' _=>by rw [e] at e';cases e';exact Nat.le_refl _⟩
 refine ⟨⟨hc.own,?_,dZ,fun k hm=>hc.sep k (hk k hm),fun k o hm=>?_⟩,aA⟩
 ·obtain ⟨N,hN⟩:=hc.bound;refine ⟨N,fun k hm=>hN k ?_⟩;rcases hm with hx|hm|hm
  ·exact .inl hx
  ·exact .inr (.inl (hk k hm))
  exact .inr (.inr hm)
 exact nU.mw (c:=⟨g0,live X h,w⟩) (Step.le aA) (hc.obj k o (gm k o hm)) (fun p _ _=>⟨rfl,rfl⟩) (fun e=>e)
theorem CW.EC (hc:CW X g0 h w):∃ k,CW X g0 ((k,.tok)::h) w/\Step X g0 h w g0 ((k,.tok)::h) w:=by
 obtain ⟨k,f1,f2,f3,f4⟩:=hc.fresh
 have aA:Step X g0 h w g0 ((k,.tok)::h) w:=by
  refine ⟨rfl,⟨rfl,Nat.le_refl _⟩,rfl,Nat.le_refl _,fun _ _ e=>e,fun _ _ _ e _=>e,fun _ _ _ e _=>e,fun _ _ e=>e,fun b hb e=>⟨rfl,fun k' s fX hm=>?_⟩,
   fun _ _ _ _ _ cc _ _ e=>⟨cc,e,rfl,fun _ _=>rfl⟩,fun _ _ _ e _ _ _ e' _=>by rw [e] at e';cases e';exact Nat.le_refl _⟩
  simp [keys] at hm;rcases hm with rfl|⟨x,hx⟩
  ·exact f4 _ _ fX
  exact e k' s fX (by simp [keys];exact ⟨x,hx⟩)
 refine ⟨k,⟨hc.own,?_,?_,?_,?_⟩,aA⟩
 ·obtain ⟨N,hN⟩:=hc.bound;refine ⟨max N (k+1),fun k' bk=>?_⟩;by_cases e:k'=k
  ·subst e;omega
  have:k'<N:=by
   rcases bk with hx|bk|hp
   ·exact hN _ (.inl hx)
   ·simp [keys,e] at bk;obtain ⟨x,hx⟩:=bk;exact hN _ (.inr (.inl (by simp [keys];exact ⟨x,hx⟩)))
   exact hN _ (.inr (.inr hp))
  omega
 ·simp only [keys,List.map_cons,List.nodup_cons];exact ⟨f2,hc.nodup⟩
 ·intro k' bk;simp [keys] at bk;rcases bk with rfl|⟨x,hx⟩
  ·exact f1
  exact hc.sep k' (by simp [keys];exact ⟨x,hx⟩)
 intro k' o' hm;rcases List.mem_cons.1 hm with e|hm
 ·cases e
  intro p hp;simp only at hp;rw [f3] at hp;cases hp
 exact nU.mw (c:=⟨g0,live X h,w⟩) (Step.le aA) (hc.obj k' o' hm) (fun p _ _=>⟨rfl,rfl⟩) (fun e=>e)
theorem CW.BQ (hc:CW X g0 h w) {l:List AV} {us:Array Value} (t:TypeId) (hr:av ⟨g0,live X h,w⟩ l us.toList) (h1:∀ u∈us,u.oneCell'=true) :
  ∃ k g',g'.pl k=some ⟨w.heap.size,0,none⟩/\CW X g' ((k,.vec l)::h) (w.alloc (.cells us t))/\Step X g0 h w g' ((k,.vec l)::h) (w.alloc (.cells us t)):=by
 obtain ⟨k,f1,f2,st,mk⟩:=hc.newAt (.cells us t) 0;refine ⟨k,_,by simp [Gh.set],mk (.vec l) ?_,st (.vec l)⟩;have hl:=hr.length;refine ⟨⟨w.heap.size,0,none⟩,us,t,by simp [Gh.set],rfl,by simp [Gh.set],heap_alloc_new w _,by simp at hl ⊢;omega,?_⟩;intro i x hx;obtain ⟨u,hu,cG⟩:=hr.get i x hx;have dj:us[i]?=some u:=(by simpa using hu);exact ⟨u,by simpa using dj,h1 u (Array.mem_of_getElem? dj),aa.mono (Step.le (st (.vec l))) _ _ cG⟩
theorem ED (z:Array Value) (hz:0<z.size):∀ m:Nat,(madeCells z (m*z.size)).toList=(List.replicate m z.toList).flatten
 | 0=>by simp [madeCells]
 | m+1=>by
   have ih:=ED z hz m;simp only [madeCells,Array.toList_map,Array.toList_range] at ih ⊢;rw [Nat.add_mul,Nat.one_mul,Nat.add_comm,List.range_add,List.map_append,List.map_map,List.replicate_succ,List.flatten_cons,<- ih];congr 1
   ·apply List.ext_getElem
    ·simp
    intro i h1 h2;simp at h1;simp [Nat.mod_eq_of_lt h1];rw [getElem!_pos z i h1]
   apply List.map_congr_left;intro j _;simp
theorem av.EE {c:Cx} {z:List AV} {us:List Value} (hz:av c z us):∀ m:Nat,av c (iY m z) (List.replicate m us).flatten
 | 0=>by simp [iY,av]
 | m+1=>by have:=av.EE hz m;simp only [iY] at this ⊢;rw [List.replicate_succ,List.replicate_succ,List.flatten_cons,List.flatten_cons];exact av.append hz this
theorem Vb {l1 l2:ab} {q:Nat} {k m cap len:Nat} {ad:Addr} {news:List Value} (hc:CW X g0 (l1++(q,.tok)::l2) w)
  (hp:g0.pl q=some ⟨ad.block,ad.off+len*k,none⟩) (hb:World.pM w ad.block (ad.off+cap*k)) (hn:news.length=m*k) (jB:len+m<=cap)
  (h1:∀ v∈news,v.oneCell'=true) :
  (storeCells (⟨ad.block,ad.off+len*k,none⟩:Addr) news).run P w=.ok () (w.setCells ad.block (ad.off+len*k) news) /\
  ∃ q' g',q' ∉ keys (l1++(q,.tok)::l2)/\g'.pl q'=some ⟨ad.block,ad.off+(len+m)*k,none⟩/\g'.ow ad.block=some (q',ad.off+(len+m)*k) /\
   CW X g' (l1++(q',.tok)::l2) (w.setCells ad.block (ad.off+len*k) news) /\
   Step X g0 (l1++(q,.tok)::l2) w g' (l1++(q',.tok)::l2) (w.setCells ad.block (ad.off+len*k) news) /\
   World.pM (w.setCells ad.block (ad.off+len*k) news) ad.block (ad.off+cap*k) /\
   ∀ j u,news[j]?=some u->(w.setCells ad.block (ad.off+len*k) news).cell? ⟨ad.block,ad.off+len*k+j,none⟩=some u:=by
 have jm:=hc.obj q .tok (by simp);obtain ⟨_,ye,cc,t,bA⟩:=jm _ hp;simp only at ye bA;obtain ⟨rz,t2,f2,NR,ia⟩:=hb;rw [bA] at NR;obtain ⟨rfl,rfl,rfl⟩:cc=rz/\t=t2/\(0,0)=f2:=by injection NR with e;injection e with e1 e2 e3;exact ⟨e1,e2,e3⟩
 have hle:ad.off+len*k+news.length<=cc.size:=by have:=Nat.mul_le_mul_right k jB;rw [Nat.add_mul] at this;omega
 obtain ⟨ej,e1,e2,e3,e4,e5,e6,e7,e8,e9⟩:=BP ad.block news (ad.off+len*k) w cc t (0,0) bA hle;have Il:q∈keys (l1++(q,.tok)::l2):=by rw [iQ];exact .inl rfl
 constructor
 ·have aA:=run_storeCells_cells (P:=P) ad.block (ad.off+len*k) news 0 w
   (fun j hj=>by
     simp only [Nat.add_zero];rw [cell_of_row w ad.block _ cc t _ bA];have:ad.off+len*k+j<cc.size:=(by omega);simp [this])
   (fun j hj=>frozen_of_row w ad.block _ cc t bA) h1
  simpa only [Nat.add_zero] using aA
 obtain ⟨q',f1,f2,f3,f4⟩:=hc.fresh;have O2:q'≠q:=fun e=>f2 (e ▸ Il)
 have aA:Step X g0 (l1++(q,.tok)::l2) w (g0.set q' (some ⟨ad.block,ad.off+(len+m)*k,none⟩) (some (ad.block,ad.off+(len+m)*k))) (l1++(q',.tok)::l2)
   (w.setCells ad.block (ad.off+len*k) news):=by
  refine ⟨e7,e8,e9,by omega,?_,?_,?_,?_,?_,?_,?_⟩
  ·intro k' p bk;simp only [Gh.set];split
   ·rename_i e;subst e;rw [f3] at bk;cases bk
   exact bk
  ·intro b k' s hb hx;simp only [Gh.set];split
   ·rename_i e;subst e;rw [ye] at hb;cases hb;exact absurd hx (hc.sep _ Il)
   exact hb
  ·intro b k' s hb hx;simp only [Gh.set] at hb;split at hb
   ·cases hb;exact absurd hx f1
   exact hb
  ·intro k' hx aZ;simp only [Gh.set];split
   ·rename_i e;subst e;exact absurd hx f1
   exact aZ
  ·intro b hb pd;have aI:b≠ad.block:=fun e=>pd q _ (e ▸ ye) Il;refine ⟨e5 b aI,fun k' s fX hm=>?_⟩;simp only [Gh.set,if_neg aI] at fX;rw [iQ] at hm;rcases hm with rfl|hm
   ·exact f4 _ _ fX
   exact pd k' s fX ((iQ _ _ _ _ _).2 (.inr hm))
  ·intro b k' s hb hm dd tt ff eE;by_cases e:b=ad.block
   ·subst e;rw [ye] at hb;cases hb
    rw [bA] at eE;cases eE
    exact ⟨ej,e1,e2,fun o ho=>e3 o (.inl ho)⟩
   exact ⟨dd,(e5 b e).trans eE,rfl,fun _ _=>rfl⟩
  intro b k' s hb hm UT xi tH _;by_cases e:b=ad.block
  ·subst e;rw [ye] at hb;cases hb
   simp only [Gh.set,if_true] at tH;cases tH
   rw [Nat.add_mul];omega
  simp only [Gh.set,if_neg e] at tH;rw [hb] at tH;cases tH;exact Nat.le_refl _
 refine ⟨q',_,f2,by simp [Gh.set],by simp [Gh.set],?_,aA,⟨ej,t,_,e1,by omega⟩,?_⟩
 ·refine hc.replace aA ?_ (.inr ⟨f1,f2⟩) ?_ ?_ ?_ ?_
  ·intro aS k' s hb;simp only [Gh.set] at hb;split at hb
   ·rename_i e;subst e;have:=hc.own _ _ _ ye;omega
   have:=hc.own _ _ _ hb;omega
  ·intro k' bk;by_cases e:k'=q'
   ·exact .inl e
   simp only [Gh.set,if_neg e] at bk;exact .inr bk
  ·intro aS s k' hb;simp only [Gh.set] at hb;split at hb
   ·cases hb;exact .inl rfl
   exact .inr ⟨_,_,hb⟩
  ·intro aS k' s hb hm
   have aI:aS≠ad.block:=by
    intro e;rw [e,ye] at hb;cases hb
    exact hc.sj hm
   exact ⟨e5 aS aI,by simp only [Gh.set,if_neg aI]⟩
  intro p aZ;simp only [Gh.set,if_true] at aZ;cases aZ
  exact ⟨rfl,by simp [Gh.set],ej,t,e1⟩
 intro j u hu;have hj:=(List.getElem?_eq_some_iff.1 hu).1;rw [cell_of_row _ ad.block _ ej t _ e1,e4 j hj,<- hu,List.getElem?_eq_getElem hj]
theorem mH.of {K K':AV->ab->Prop} {d:Option Tmp} {next:Act->World->Prop} (hn:mH X g0 h w K d a next)
  (hk:∀ v h',K' v h'->∃ pS,K v pS/\(∀ k o,(k,o)∈pS->(k,o)∈h')/\((keys h').Nodup->(keys pS).Nodup)) (hc:CW X g0 h w):mH X g0 h w K' d a next:=by
 intro v h' g' u w' hK c1 c2 c3;obtain ⟨pS,k1,k2,k3⟩:=hk v h' hK;obtain ⟨d1,d2⟩:=c1.sub k2 (k3 c1.nodup);exact hn v pS g' u w' k1 d1 (aa.mono (Step.le d2) _ _ c2) (c3.trans hc.own d2)
theorem NS {l1 l2:ab} {q k:Nat} {xs ys:List (List AV)} {u uy:Value} {t tx ty e:TypeId} {K:AV->ab->Prop} {next:Act->World->Prop} {o:Oper}
  {Q:Exit->Act->World->Prop} (hc:CW X g0 (l1++(q,.tok)::l2) w) (ht:P.underlying t=some (.slice e)) (eK:rD P tx=true) (iv:1<=P.cellsOf e) (jI:P.bytesOf e<=4096)
  {z:List AV} (hz:iF P e=some z) (ib:z.length=P.cellsOf e) (hk:k=P.cellsOf e) (tJ:∃ news:List Value,(∀ w',(Builtin.lenOf uy).run P w'=.ok ys.length w')/\(∀ w':World,w'.heap=w.heap->(Builtin.firstCells k ys.length uy).run P w'=.ok news.toArray w') /\
   av ⟨g0,live X (l1++(q,.tok)::l2),w⟩ ys.flatten news/\(∀ x∈ys,x.length=k)/\(∀ v∈news,v.oneCell'=true)) (dL:(xs++ys).length<=aV)
  (hx:aa ⟨g0,live X (l1++(q,.tok)::l2),w⟩ (.sl k (some q) xs) u)
  (bq:∀ s w',(Builtin.append_ #[t,tx] ty #[u,uy]).run P w=.ok s w'->(execOp a.eval o).run P w=.ok (.value s) w')
  (hK:∀ q',∃ h',cH q .tok q' .tok (l1++(q,.tok)::l2) h'/\K (.sl k (some q') (xs++ys)) h') (hn:mH X g0 (l1++(q,.tok)::l2) w K o.dst a next):o.wp P a w next Q:=by
 obtain ⟨i,zv,hi,fC,eN,ga⟩:=mZ (c:=⟨g0,live X (l1++(q,.tok)::l2),w⟩) hz;have fF:i.size=P.cellsOf e:=(by simp [Program.cellsOf,hi]);have wk:i.bytes=P.bytesOf e:=(by simp [Program.bytesOf,hi]);have lM:zv.cells.size=P.cellsOf e:=by have:=eN.length;simp at this;omega
 obtain ⟨news,n1,n2,n3,n4,n5⟩:=tJ;have fR:news.length=ys.length*k:=(by rw [n3.length,kZ n4]);have kF:=hx;simp only [aa] at hx;obtain ⟨base,cap,rfl,x1,x2,x3,x4,x5,x6,x7⟩:=hx
 have Im:∀ q' h',cH q .tok q' .tok (l1++(q,.tok)::l2) h'->h'=l1++(q',.tok)::l2:=by
  intro q' h' hu;obtain ⟨m1,m2,e1,e2⟩:=cH.split hu
  -- keys NT O3 from one O4
  have dZ:=hc.nodup
  have key:∀ (l1 m1 l2 m2:ab),(keys (l1++(q,.tok)::l2)).Nodup->l1++(q,Ob.tok)::l2=m1++(q,.tok)::m2->l1=m1/\l2=m2:=by
   intro l1;induction l1 with
   | nil=>
     intro m1 l2 m2 dZ he;cases m1 with
     | nil=>simp at he;exact ⟨rfl,he⟩
     | cons x m1=>
       simp at he;obtain ⟨rfl,rfl⟩:=he;simp [keys] at dZ
   | cons x l1 ih=>
     intro m1 l2 m2 dZ he;cases m1 with
     | nil=>
       simp at he;obtain ⟨rfl,rfl⟩:=he;simp [keys] at dZ
     | cons y m1=>
       simp at he;obtain ⟨rfl,he⟩:=he;have Vc:(keys (l1++(q,.tok)::l2)).Nodup:=by simp only [keys,List.cons_append,List.map_cons,List.nodup_cons] at dZ ⊢;exact dZ.2
       obtain ⟨rfl,rfl⟩:=ih m1 l2 m2 Vc he;exact ⟨rfl,rfl⟩
  obtain ⟨rfl,rfl⟩:=key _ _ _ _ dZ e1;exact e2
 by_cases jB:xs.length+ys.length<=cap
 ·by_cases hm:ys=[]
  ·-- nothing
   subst hm;have fy:news=[]:=List.eq_nil_of_length_eq_zero (by rw [fR];simp);subst fy;obtain ⟨h',hu,hK⟩:=hK q;have:=Im _ _ hu;subst this;refine dV (w':=w) (bq _ _ (zA (w':=w) (m:=0) (i:=i) ht eK hi (by simpa using n1) (by simpa [fF,hk] using n2 w rfl) (by omega) ?_ (fun _=>rfl))) ?_
   ·intro ad _;simp [storeCells]
   refine hn _ _ g0 _ w hK hc ?_ (Step.refl _ _ _ _);simpa using kF
  have eF:0<ys.length:=List.length_pos_iff.2 hm;rcases x7 q rfl with x7|⟨ad,ha,hs,hp,EF⟩
  ·omega
  subst ha;obtain ⟨st,q',g',f1,f2,f3,f4,f5,f6,f7⟩:=Vb (P:=P) (m:=ys.length) hc hp EF fR jB n5;obtain ⟨h',hu,hK⟩:=hK q';have:=Im _ _ hu;subst this
  have eD:∀ j,ad.add j=⟨ad.block,ad.off+j,none⟩:=by
   intro j;unfold Addr.add;split
   ·rename_i h0;rw [h0];cases ad;simp_all
   rfl
  refine dV (bq _ _ (zA (m:=ys.length) (i:=i) ht eK hi n1 (by rw [fF,<- hk];exact n2 w rfl) jB
   (w':=w.setCells ad.block (ad.off+xs.length*k) news) ?_ (fun e=>by cases e))) ?_
  ·intro Io he;cases he
   rw [eD,fF,<- hk];exact st
  refine hn _ _ g' _ _ hK f4 ?_ f5;simp only [aa];refine ⟨some ad,cap,by simp,by simpa using jB,by unfold aq;unfold aV at dL;omega,x3,by simp,fun a' kA _=>by cases kA;exact hs,?_,?_⟩
  ·intro a' kA;cases kA
   refine cm.append (cm.mono (Step.le f5) _ _ _ _ (x6 ad rfl)) ?_;refine cm.flat n4 (bz.in (us:=news) (l:=news) (av.mono (Step.le f5) _ _ n3) ?_);intro j v hj;have fP:=(List.getElem?_eq_some_iff.1 hj).1;refine ⟨f7 j v hj,n5 v (List.mem_of_getElem? hj),?_⟩;intro kk s lf _;simp only at lf;rw [f3] at lf;cases lf
   rw [Nat.add_mul];omega
  intro q2 mF;cases mF
  exact .inr ⟨ad,rfl,hs,by simp only [f2,List.length_append],f6⟩
 -- a new row
 obtain ⟨di,o1,o2,o3,o4,o5⟩:=wj (k:=k) (y:=.sl k (some q) xs) (ys:=xs) (c:=⟨g0,live X (l1++(q,.tok)::l2),w⟩) (by simp [qG,Nat.beq_refl]) kF;have hg:cap<xs.length+ys.length:=by omega
 have lF:=yd (P:=P) (w:=w) (ty:=ty) (i:=i) (z:=zv) (m:=ys.length) ht eK hi fC n1 (by rw [fF,<- hk];exact n2 w.drew rfl) (base:=base)
  (by rw [fF,<- hk];exact o2 w.drew rfl) hg (by simpa using dL) (by omega)
 refine dV (bq _ _ lF) ?_;have tK:=grownCap_ge w (xs.length+ys.length) cap e
 have gH:=NQ (K:=fun v h'=>∃ q',v=.sl k (some q') (xs++ys)/\h'=(q',.tok)::(l1++(q,.tok)::l2)) (xs:=xs++ys) (us:=di++news) (k:=k) (e:=e)
  (cap:=grownCap w (xs.length+ys.length) cap e) (Z:=Builtin.zeroCells zv.cells (grownCap w (xs.length+ys.length) cap e - (xs.length+ys.length)))
  (d:=o.dst) (a:=a) (next:=next) hc (by simpa using av.append o3 n3) (by intro x hx;rcases List.mem_append.1 hx with h|h;exact o4 x h;exact n4 x h)
  (by intro v hv;rcases List.mem_append.1 hv with h|h;exact o5 v h;exact n5 v h) x3 dL (by simpa using tK) ?_ (fun q'=>⟨q',rfl,rfl⟩) (hn.of ?_ hc)
 ·simpa using gH
 ·rw [size_zeroCells,lM,<- hk,List.length_append,fR,o3.length,kZ o4,<- Nat.add_mul,<- Nat.add_mul];congr 1;omega
 rintro v h' ⟨q',rfl,rfl⟩;obtain ⟨h',hu,hK⟩:=hK q';have:=Im _ _ hu;subst this;refine ⟨_,hK,?_,?_⟩
 ·intro k' o' hm;simp only [List.mem_append,List.mem_cons] at hm ⊢;rcases hm with h|h|h
  ·exact .inr (.inl h)
  ·exact .inl h
  exact .inr (.inr (.inr h))
 intro dZ;rw [tI];simp only [keys,List.map_cons,List.map_append,List.nodup_cons,List.nodup_append,List.mem_append,List.mem_cons,not_or] at dZ ⊢;obtain ⟨⟨a1,a2,a3⟩,b1,⟨b2,b3⟩,b4⟩:=dZ;refine ⟨b1,⟨a3,b3⟩,fun x hx y hy=>?_⟩;rcases hy with rfl|hy
 ·rintro rfl;exact a1 hx
 exact b4 x hx y (.inr hy)
theorem Vd {l1 l2:ab} {q k:Nat} {xs ys:List (List AV)} {y:AV} {u uy:Value} {t tx ty e:TypeId} {K:AV->ab->Prop} {next:Act->World->Prop} {o:Oper}
  {Q:Exit->Act->World->Prop} (hc:CW X g0 (l1++(q,.tok)::l2) w) (ht:P.underlying t=some (.slice e)) (eK:rD P tx=true) (iv:1<=P.cellsOf e) (jI:P.bytesOf e<=4096)
  {z:List AV} (hz:iF P e=some z) (ib:z.length=P.cellsOf e) (hk:k=P.cellsOf e) (kf:qG k y=some ys) (dL:(xs++ys).length<=aV)
  (hx:aa ⟨g0,live X (l1++(q,.tok)::l2),w⟩ (.sl k (some q) xs) u) (hy:aa ⟨g0,live X (l1++(q,.tok)::l2),w⟩ y uy)
  (bq:∀ s w',(Builtin.append_ #[t,tx] ty #[u,uy]).run P w=.ok s w'->(execOp a.eval o).run P w=.ok (.value s) w')
  (hK:∀ q',∃ h',cH q .tok q' .tok (l1++(q,.tok)::l2) h'/\K (.sl k (some q') (xs++ys)) h') (hn:mH X g0 (l1++(q,.tok)::l2) w K o.dst a next):o.wp P a w next Q:=by
 exact NS hc ht eK iv jI hz ib hk (wj kf hy) dL hx bq hK hn
end Go.Abs
/-
 The abstract fB,part I0: O5 LA an own map.
-/
namespace Go.Abs
open Go
def Ip (w1 w:World):Prop:=w1.Alike w/\(w1.tape=w.tape/\w.drawn<=w1.drawn)
variable {P:Program} {n:Nat} {X:Nat->Prop} {g0:Gh} {r:aC} {h:ab} {a:Act} {w:World}
theorem eC.len {c:Cx}:∀ {es:List (AV × AV)} {ai:List MapEntry},eC c es ai->es.length=ai.length
 | [],_,h=>by rw [h];rfl
 | x::es,_,h=>by obtain ⟨e,r,rfl,_,_,h⟩:=h;simp [eC.len h]
theorem eC.get {c:Cx}:∀ {es:List (AV × AV)} {ai:List MapEntry} {i:Nat} {x:AV × AV},eC c es ai->es[i]?=some x->∃ e,ai[i]?=some e/\aa c x.1 e.key/\aa c x.2 e.val
 | [],_,i,x,_,hx=>by cases hx
 | y::es,_,0,x,h,hx=>by obtain ⟨e,r,rfl,a1,a2,h⟩:=h;simp at hx;subst hx;exact ⟨e,rfl,a1,a2⟩
 | y::es,_,i+1,x,h,hx=>by obtain ⟨e,r,rfl,a1,a2,h⟩:=h;obtain ⟨e',h1,h2⟩:=eC.get h (by simpa using hx);exact ⟨e',by simpa using h1,h2⟩
theorem Ve {l1 l2:ab} {b:Nat} {es:List (AV × AV)} (hc:CW X g0 (l1++(b,.map es)::l2) w):∃ p bs cl ai,bs.length=es.length/\bs.Nodup/\g0.pl b=some p/\w.heap[p.block]?=some (.map ai cl) /\
  CW X g0 (l1++(b,.ub es bs cl)::l2) w/\Step X g0 (l1++(b,.map es)::l2) w g0 (l1++(b,.ub es bs cl)::l2) w:=by
 obtain ⟨p,cl,ai,o1,o2,o3,o4,o5,o6⟩:=hc.obj b (.map es) (by simp)
 have aA:Step X g0 (l1++(b,.map es)::l2) w g0 (l1++(b,.ub es (ai.toList.map (·.born)) cl)::l2) w:=by
  refine ⟨rfl,⟨rfl,Nat.le_refl _⟩,rfl,Nat.le_refl _,fun _ _ e=>e,fun _ _ _ e _=>e,fun _ _ _ e _=>e,fun _ _ e=>e,?_,?_,?_⟩
  ·intro aS aL hn;refine ⟨rfl,fun k s hk hm=>hn k s hk ?_⟩;rw [iQ] at hm ⊢;exact hm
  ·intro aS k s hk hm dd tt ff eE;exact ⟨dd,eE,rfl,fun _ _=>rfl⟩
  intro aS k s hk _ k' s' bk _;rw [hk] at bk;cases bk;exact Nat.le_refl _
 refine ⟨p,_,cl,ai,by simp [eC.len o4],o6,o1,o3,?_,aA⟩;refine hc.replace aA hc.own (.inl rfl) (fun k hk=>.inr hk) (fun aS s k hk=>.inr ⟨aS,s,hk⟩) (fun aS k s hk hm=>⟨rfl,rfl⟩) ?_;exact ⟨p,ai,o1,o2,o3,eC.mono (Step.le aA) o4,o5,o6,rfl⟩
theorem Vf {l1 l2:ab} {b m cl:Nat} {seen BR:List Nat} {p pm:Addr} {sa yf:Array Nat} {w1:World} (hc:CW X g0 (l1++(b,.iter m cl seen)::l2) w) (ha:Ip w1 w) (hp:g0.pl b=some p) (ho:g0.ow p.block=some (b,0))
  (hb:w.heap[p.block]?=some (.mapIter (some pm.block) cl sa cl)) (eH:g0.pl m=some pm) (hs:yf.toList=BR) :
  CW X g0 (l1++(b,.iter m cl BR)::l2) { w1 with heap:=w1.heap.setIfInBounds p.block (.mapIter (some pm.block) cl yf cl) } /\
  Step X g0 (l1++(b,.iter m cl seen)::l2) w g0 (l1++(b,.iter m cl BR)::l2) { w1 with heap:=w1.heap.setIfInBounds p.block (.mapIter (some pm.block) cl yf cl) }:=by
 obtain ⟨⟨a1,a2,a3⟩,a4⟩:=ha;have aL:p.block<w.heap.size:=(Array.getElem?_eq_some_iff.1 hb).1;have sm:∀ aS,aS≠p.block->(w1.heap.setIfInBounds p.block (.mapIter (some pm.block) cl yf cl))[aS]?=w.heap[aS]?:=fun aS aI=>by rw [Array.getElem?_setIfInBounds_ne (Ne.symm aI),a1]
 have im:b∈keys (l1++(b,.iter m cl seen)::l2):=by rw [iQ];exact .inl rfl
 have aA:Step X g0 (l1++(b,.iter m cl seen)::l2) w g0 (l1++(b,.iter m cl BR)::l2) { w1 with heap:=w1.heap.setIfInBounds p.block (.mapIter (some pm.block) cl yf cl) }:=by
  refine ⟨a2,a4,a3,by simp [a1],fun _ _ e=>e,fun _ _ _ e _=>e,fun _ _ _ e _=>e,fun _ _ e=>e,?_,?_,?_⟩
  ·intro aS aL hn;have aI:aS≠p.block:=fun e=>hn b 0 (e ▸ ho) im;refine ⟨sm aS aI,fun k s hk hm=>hn k s hk ?_⟩;rw [iQ] at hm ⊢;exact hm
  ·intro aS k s hk hm dd tt ff eE;by_cases e:aS=p.block
   ·subst e;rw [hb] at eE;cases eE
   exact ⟨dd,(sm aS e).trans eE,rfl,fun _ _=>rfl⟩
  intro aS k s hk _ k' s' bk _;rw [hk] at bk;cases bk;exact Nat.le_refl _
 refine ⟨?_,aA⟩;refine hc.replace aA (fun aS k s hk=>by have:=hc.own _ _ _ hk;simpa [a1] using this) (.inl rfl) (fun k hk=>.inr hk) (fun aS s k hk=>.inr ⟨aS,s,hk⟩) ?_ ?_
 ·intro aS k s hk hm
  have aI:aS≠p.block:=by
   intro e;rw [e,ho] at hk;cases hk
   exact hc.sj hm
  exact ⟨sm aS aI,rfl⟩
 exact ⟨p,pm,yf,hp,ho,by simp [aL,a1],eH,hs⟩
theorem run_next_any (ty:TypeId) (bi bm since:Nat) (seen:Array Nat) (es:Array MapEntry) (hi:w.heap[bi]?=some (.mapIter (some bm) since seen since)) (hb:w.heap[bm]?=some (.map es since)) (hold:∀ x∈es.toList,x.born<since) :
  ((leftOf es seen).size=0/\(Instr.next (.pointer (some ⟨bi,0,none⟩)) false ty).run P w=.ok (.tuple #[.bool false]) w) \/
  ∃ e∈(leftOf es seen).toList,∃ w1:World,Ip w1 w/\(Instr.next (.pointer (some ⟨bi,0,none⟩)) false ty).run P w=.ok (.tuple #[.bool true,e.key,e.val]) { w1 with heap:=w1.heap.setIfInBounds bi (.mapIter (some bm) since (seen.push e.born) since) }:=by
 simp only [Instr.next,getObj,Sem.run_bind,Sem.run,hi,hb,Result.andThen,next_test_false seen es since since hold (Nat.le_refl _),Bool.false_eq_true,if_false];unfold leftOf;have uM:∀ x∈(Array.filter (fun e=>!seen.contains e.born) es).toList,x.born<since:=fun x hx=>hold x (by simp at hx ⊢;exact hx.1);generalize Array.filter (fun e=>!seen.contains e.born) es=L at uM ⊢;have e1:L.filter (fun x=>decide (x.born<since))=L:=Array.filter_eq_self.2 (fun x hx=>by simpa using uM x (by simpa using hx));have e2:L.filter (fun x=>decide (x.born>=since))=#[]:=by rw [Array.filter_eq_empty_iff];intro x hx;have:=uM x (by simpa using hx);simp;omega
 simp only [e1,e2,Array.append_empty];by_cases h0:L.size=0
 ·left;have:L=#[]:=Array.eq_empty_of_size_eq_zero h0;subst this;refine ⟨rfl,?_⟩;simp [choose,Sem.run,Question.forced]
 right;have aI:L.isEmpty=false:=(by simp [Array.isEmpty,h0]);simp only [aI,Bool.false_eq_true,if_false,Array.empty_append,Array.size_map]
 have Vg:∃ (j:Nat) (w1:World),j<L.size/\Ip w1 w/\(choose (Question.mapNext L.size)).run P w=.ok j w1:=by
  by_cases hf:L.size<=1
  ·exact ⟨0,w,by omega,⟨⟨rfl,rfl,rfl⟩,rfl,Nat.le_refl _⟩,by simp [choose,Sem.run,Question.forced,hf]⟩
  exact ⟨_,w.drew,Nat.mod_lt _ (by omega),⟨⟨rfl,rfl,rfl⟩,rfl,Nat.le_succ _⟩,by
   simp only [choose,Sem.run,Question.forced,decide_eq_true_eq,hf,if_false,Question.cut];rfl⟩
 obtain ⟨j,w1,hj,ji,bq⟩:=Vg;refine ⟨L[j],by simp,w1,ji,?_⟩;have iA:(setObj bi (.mapIter (some bm) since (seen.push L[j].born) since)).run P w1=.ok () { w1 with heap:=w1.heap.setIfInBounds bi (.mapIter (some bm) since (seen.push L[j].born) since) }:=(by simp [setObj,Sem.run,ji.1.1,hi]);simp only [bq,Array.getElem?_map,Array.getElem?_eq_getElem hj,Option.map_some,Sem.run_bind,iA,Result.andThen];rfl
theorem Vh (bi bm since c0:Nat) (seen:Array Nat) (es:Array MapEntry) (e:MapEntry) (hi:w.heap[bi]?=some (.mapIter (some bm) since seen c0)) (hb:w.heap[bm]?=some (.map es c0)) (hs:seen.back?=some e.born) (he:e∈es.toList) (hn:(es.toList.map (·.born)).Nodup) :
  (Instr.entry (.pointer (some ⟨bi,0,none⟩))).run P w=.ok (.tuple #[e.key,e.val]) w:=by
 have hf:es.find? (·.born == e.born)=some e:=by rw [<- Array.find?_toList];exact find_born e es.toList hn he
 simp only [Instr.entry,getObj,Sem.run_bind,Sem.run,hi,hb,hs,Result.andThen,bne_self_eq_false,Bool.false_eq_true,if_false,hf];rfl
end Go.Abs
/-
 The abstract fB,part I1: own rows that grow.
-/
namespace Go.Abs
open Go
variable {P:Program} {n:Nat} {X:Nat->Prop} {g0:Gh} {r:aC} {h:ab} {a:Act} {w:World}
theorem Iq:∀ {l1 l2 m1 m2:ab} {b:Nat} {o o':Ob},(keys (l1++(b,o)::l2)).Nodup->l1++(b,o)::l2=m1++(b,o')::m2->l1=m1/\l2=m2
 | [],l2,[],m2,b,o,o',hn,e=>by simp at e;exact ⟨rfl,e.2⟩
 | [],l2,y::m1,m2,b,o,o',hn,e=>by simp at e;obtain ⟨rfl,rfl⟩:=e;simp [keys] at hn
 | x::l1,l2,[],m2,b,o,o',hn,e=>by simp at e;obtain ⟨rfl,rfl⟩:=e;simp [keys] at hn
 | x::l1,l2,y::m1,m2,b,o,o',hn,e=>by
   simp at e;obtain ⟨rfl,e⟩:=e;have jj:(keys (l1++(b,o)::l2)).Nodup:=by have:keys (x::l1++(b,o)::l2)=x.1::keys (l1++(b,o)::l2):=rfl;rw [this] at hn;exact (List.nodup_cons.1 hn).2
   obtain ⟨rfl,rfl⟩:=Iq jj e;exact ⟨rfl,rfl⟩
theorem CW.zC (hc:CW X g0 h w) {l:List AV} {us:List Value} {Z:Array Value} (t:TypeId) (hr:av ⟨g0,live X h,w⟩ l us) (h1:∀ u∈us,u.oneCell'=true) :
  ∃ k g',g'.pl k=some ⟨w.heap.size,0,none⟩/\CW X g' ((k,.vec l)::h) (w.alloc (.cells (us.toArray++Z) t))/\Step X g0 h w g' ((k,.vec l)::h) (w.alloc (.cells (us.toArray++Z) t)):=by
 obtain ⟨k,f1,f2,st,mk⟩:=hc.newAt (.cells (us.toArray++Z) t) 0;refine ⟨k,_,by simp [Gh.set],mk (.vec l) ?_,st (.vec l)⟩;have hl:=hr.length;refine ⟨⟨w.heap.size,0,none⟩,us.toArray++Z,t,by simp [Gh.set],rfl,by simp [Gh.set],heap_alloc_new w _,by simp;omega,?_⟩;intro i x hx;obtain ⟨u,hu,cG⟩:=hr.get i x hx;have aL:i<us.length:=(List.getElem?_eq_some_iff.1 hu).1;refine ⟨u,?_,h1 u (List.mem_of_getElem? hu),aa.mono (Step.le (st (.vec l))) _ _ cG⟩;rw [Nat.zero_add,Array.getElem?_append_left (by simpa using aL)];simpa using hu
theorem NU {l1 l2:ab} {b:Nat} {cs l:List AV} {us:List Value} {p:Addr} {N:Nat} (hc:CW X g0 (l1++(b,.vec cs)::l2) w) (hp:g0.pl b=some p) (hb:World.pM w p.block N) (hle:p.off+cs.length+l.length<=N)
  (ba:av ⟨g0,live X (l1++(b,.vec cs)::l2),w⟩ l us) (ho:∀ u∈us,u.oneCell'=true) :
  (storeCells (⟨p.block,p.off+cs.length,none⟩:Addr) us).run P w=.ok () (w.setCells p.block (p.off+cs.length) us) /\
  World.pM (w.setCells p.block (p.off+cs.length) us) p.block N /\
   CW X g0 (l1++(b,.vec (cs++l))::l2) (w.setCells p.block (p.off+cs.length) us) /\
   Step X g0 (l1++(b,.vec cs)::l2) w g0 (l1++(b,.vec (cs++l))::l2) (w.setCells p.block (p.off+cs.length) us):=by
 have jm:=hc.obj b (.vec cs) (by simp);obtain ⟨p',cc,t,h1,h2,h3,h4,h5,h6⟩:=jm;simp only at h1 h3 h4;rw [hp] at h1;cases h1
 obtain ⟨Ir,t0,f0,q1,q2⟩:=hb;rw [h4] at q1;cases q1
 have hlen:=ba.length;have gi:p.off+cs.length+us.length<=cc.size:=(by omega);obtain ⟨ej,e1,e2,e3,e4,e5,e6,e7,e8,e9⟩:=BP p.block us (p.off+cs.length) w cc t (0,0) h4 gi;have im:b∈keys (l1++(b,.vec cs)::l2):=by rw [iQ];exact .inl rfl
 have aA:Step X g0 (l1++(b,.vec cs)::l2) w g0 (l1++(b,.vec (cs++l))::l2) (w.setCells p.block (p.off+cs.length) us):=by
  refine ⟨e7,e8,e9,by omega,fun _ _ e=>e,fun _ _ _ e _=>e,fun _ _ _ e _=>e,fun _ _ e=>e,?_,?_,?_⟩
  ·intro aS hb hn;have aI:aS≠p.block:=fun e=>hn b 0 (e ▸ h3) im;refine ⟨e5 aS aI,fun k s hk hm=>hn k s hk ?_⟩;rw [iQ] at hm ⊢;exact hm
  ·intro aS k s hk hm dd tt ff eE;by_cases e:aS=p.block
   ·subst e;rw [h3] at hk;cases hk
    rw [h4] at eE;cases eE
    exact ⟨ej,e1,e2,fun o ho=>by omega⟩
   exact ⟨dd,(e5 aS e).trans eE,rfl,fun _ _=>rfl⟩
  intro aS k s hk _ k' s' bk _;rw [hk] at bk;cases bk;exact Nat.le_refl _
 refine ⟨?_,⟨ej,t,_,e1,by omega⟩,?_,aA⟩
 ·have aA:=run_storeCells_cells (P:=P) p.block (p.off+cs.length) us 0 w
   (fun j hj=>by
     simp only [Nat.add_zero];rw [cell_of_row w p.block _ cc t _ h4];have:p.off+cs.length+j<cc.size:=(by omega);simp [this])
   (fun j hj=>frozen_of_row w p.block _ cc t h4) ho
  simpa only [Nat.add_zero] using aA
 refine hc.replace aA (fun aS k s hk=>by have:=hc.own _ _ _ hk;omega) (.inl rfl) (fun k hk=>.inr hk) (fun aS s k hk=>.inr ⟨aS,s,hk⟩) ?_ ?_
 ·intro aS k s hk hm
  have aI:aS≠p.block:=by
   intro e;rw [e,h3] at hk;cases hk
   exact hc.sj hm
  exact ⟨e5 aS aI,rfl⟩
 refine ⟨p,ej,t,hp,h2,h3,e1,by simp;omega,?_⟩;intro i x hx;by_cases hi:i<cs.length
 ·rw [List.getElem?_append_left hi] at hx;obtain ⟨u,hu,bD,hr⟩:=h6 i x hx;exact ⟨u,by rw [e3 _ (by omega)];exact hu,bD,aa.mono (Step.le aA) _ _ hr⟩
 rw [List.getElem?_append_right (by omega)] at hx;obtain ⟨u,hu,hr⟩:=ba.get _ _ hx;have aL:i - cs.length<us.length:=(List.getElem?_eq_some_iff.1 hu).1;refine ⟨u,?_,ho u (List.mem_of_getElem? hu),aa.mono (Step.le aA) _ _ hr⟩;have:=e4 (i - cs.length) aL;rw [show p.off+cs.length+(i - cs.length)=p.off+i from by omega] at this;rw [this,<- hu,List.getElem?_eq_getElem aL]
theorem Vi {l1 l2:ab} {b k n:Nat} {cs:List AV} {ys:List (List AV)} {y:AV} {u uy:Value} {t tx ty e:TypeId} {K:AV->ab->Prop} {next:Act->World->Prop} {o:Oper}
  {Q:Exit->Act->World->Prop} (hc:CW X g0 (l1++(b,.vec cs)::l2) w) (ht:P.underlying t=some (.slice e)) (eK:rD P tx=true) (iv:1<=P.cellsOf e) (jI:P.bytesOf e<=4096)
  {z:List AV} (hz:iF P e=some z) (ib:z.length=P.cellsOf e) (hk:k=P.cellsOf e) (kf:qG k y=some ys) (bR:cs.length=n*k) (dL:n+ys.length<=aV)
  (hx:aa ⟨g0,live X (l1++(b,.vec cs)::l2),w⟩ (.aR b 0 n k) u) (hy:aa ⟨g0,live X (l1++(b,.vec cs)::l2),w⟩ y uy)
  (bq:∀ s w',(Builtin.append_ #[t,tx] ty #[u,uy]).run P w=.ok s w'->(execOp a.eval o).run P w=.ok (.value s) w')
  (hK:∀ b',K (.aR b' 0 (n+ys.length) k) (l1++(b',.vec (cs++ys.flatten))::l2)) (hn:mH X g0 (l1++(b,.vec cs)::l2) w K o.dst a next):o.wp P a w next Q:=by
 obtain ⟨i,zv,hi,fC,eN,ga⟩:=mZ (c:=⟨g0,live X (l1++(b,.vec cs)::l2),w⟩) hz;have fF:i.size=P.cellsOf e:=(by simp [Program.cellsOf,hi]);have wk:i.bytes=P.bytesOf e:=(by simp [Program.bytesOf,hi]);have lM:zv.cells.size=P.cellsOf e:=by have:=eN.length;simp at this;omega
 obtain ⟨news,n1,n2,n3,n4,n5⟩:=wj (c:=⟨g0,live X (l1++(b,.vec cs)::l2),w⟩) kf hy;have fR:news.length=ys.length*k:=(by rw [n3.length,kZ n4]);obtain ⟨q,cc,tt,h1,h2,h3,h4,h5,h6⟩:=hc.obj b (.vec cs) (by simp);simp only at h1 h3 h4;rw [aa] at hx;obtain ⟨p,cap,o',hp,hs,rfl,x2,x3,x4,x5,x6,x7⟩:=hx;simp only at hp x5;rw [h1] at hp;cases hp
 by_cases jB:n+ys.length<=cap
 ·by_cases jJ:cap=0
  ·have fy:n=0:=(by omega);have Is:ys=[]:=List.eq_nil_of_length_eq_zero (by omega);subst jJ fy Is;have Vj:cs=[]:=List.eq_nil_of_length_eq_zero (by simpa using bR);subst Vj;have fy:news=[]:=List.eq_nil_of_length_eq_zero (by simpa using fR);subst fy;refine dV (bq _ _ (zA (m:=0) (i:=i) ht eK hi (by simpa using n1) (by simpa [fF,hk] using n2 w rfl) (by omega) (w':=w) (fun Io _=>rfl) (fun e=>by cases e))) ?_;refine hn _ _ g0 _ _ (hK b) (by simpa using hc) ?_ (by simpa using Step.refl _ _ _ _);rw [aa];exact ⟨q,0,o',h1,h2,rfl,by simp,by simp,x4,x5,fun h=>absurd h (by omega),by unfold oI;omega⟩
  have Iu:=x6 (by omega);subst Iu;have hle:q.off+cs.length+ys.flatten.length<=q.off+0+cap*k:=by rw [kZ n4,bR,Nat.add_assoc,<- Nat.add_mul];have:=Nat.mul_le_mul_right k jB;omega
  obtain ⟨s1,s2,s3,s4⟩:=NU (P:=P) hc h1 x5 hle n3 n5;refine dV (bq _ _ (zA (m:=ys.length) (i:=i) ht eK hi n1 (by rw [fF,<- hk];exact n2 w rfl) jB (w':=w.setCells q.block (q.off+cs.length) news) ?_ (fun e=>by cases e))) ?_
  ·intro Io he;cases he
   have eD:(⟨q.block,q.off+0,none⟩:Addr).add (n*i.size)=⟨q.block,q.off+cs.length,none⟩:=by
    rw [bR,fF,<- hk];unfold Addr.add;split
    ·rename_i h0;rw [h0]
    simp
   rw [eD];exact s1
  refine hn _ _ g0 _ _ (hK b) s3 ?_ s4;rw [aa];exact ⟨q,cap,0,h1,h2,rfl,jB,by unfold aq;unfold aV at dL;omega,x4,s2,fun _=>rfl,x7⟩
 have hg:cap<n+ys.length:=by omega
 -- the pN cells
 have hold:∃ di:List Value,di.length=cs.length/\(∀ (j:Nat) v,di[j]?=some v->cc[q.off+j]?=some v)/\av ⟨g0,live X (l1++(b,.vec cs)::l2),w⟩ cs di/\∀ v∈di,v.oneCell'=true:=by
  have key:∀ (l:List AV) (o:Nat),(∀ i x,l[i]?=some x->∃ u,cc[q.off+(o+i)]?=some u/\u.oneCell'=true/\aa ⟨g0,live X (l1++(b,.vec cs)::l2),w⟩ x u) ->
    ∃ di:List Value,di.length=l.length/\(∀ (j:Nat) v,di[j]?=some v->cc[q.off+(o+j)]?=some v)/\av ⟨g0,live X (l1++(b,.vec cs)::l2),w⟩ l di/\∀ v∈di,v.oneCell'=true:=by
   intro l;induction l with
   | nil=>intro o _;exact ⟨[],rfl,by simp,by simp [av],by simp⟩
   | cons x l ih=>
     intro o hh;obtain ⟨u,a1,a2,a3⟩:=hh 0 x (by simp)
     obtain ⟨di,b1,b2,b3,b4⟩:=ih (o+1) (fun i y hy=>by
      obtain ⟨v,c1,c2⟩:=hh (i+1) y (by simpa using hy);exact ⟨v,by rw [show o+1+i=o+(i+1) from by omega];exact c1,c2⟩)
     refine ⟨u::di,by simp [b1],?_,by simp only [av];exact ⟨_,_,rfl,a3,b3⟩,?_⟩
     ·intro j v hj;cases j with
      | zero=>simp at hj;subst hj;simpa using a1
      | succ j=>
        have:=b2 j v (by simpa using hj);rw [show o+(j+1)=o+1+j from by omega];exact this
     intro v hv;rcases List.mem_cons.1 hv with rfl|hv
     ·exact a2
     exact b4 v hv
  have:=key cs 0 (fun i x hx=>by simpa using h6 i x hx);simpa using this
 obtain ⟨di,o1,o2,o3,o4⟩:=hold
 have lF:=yd (P:=P) (w:=w) (ty:=ty) (i:=i) (z:=zv) (m:=ys.length) (di:=di) ht eK hi fC n1 (by rw [fF,<- hk];exact n2 w.drew rfl) (base:=some ⟨q.block,q.off+o',none⟩) (gB:=n)
  (by
    rw [fF,<- hk];refine run_firstCells_some w.drew k n ⟨q.block,q.off+o',none⟩ n cap di (by rw [o1,bR]) (fun j v hj=>?_);have fP:=(List.getElem?_eq_some_iff.1 hj).1;rw [o1,bR] at fP
    have jh:0<n:=by
     rcases Nat.eq_zero_or_pos n with h|h
     ·subst h;simp at fP
     exact h
    have Iu:=x6 (by omega);subst Iu
    have eD:(⟨q.block,q.off+0,none⟩:Addr).add j=⟨q.block,q.off+j,none⟩:=by
     unfold Addr.add;split
     ·rename_i h0;rw [h0]
     simp
    rw [eD];have:w.drew.heap[q.block]?=some (.cells cc tt (0,0)):=h4;rw [cell_of_row w.drew q.block _ cc tt _ this];exact o2 j v hj) hg dL (by omega)
 refine dV (bq _ _ lF) ?_;obtain ⟨c1,s1⟩:=hc.drew;have tK:=grownCap_ge w (n+ys.length) cap e
 obtain ⟨b',g',k1,k2,k3⟩:=c1.zC (l:=cs++ys.flatten) (us:=di++news) (Z:=Builtin.zeroCells zv.cells (grownCap w (n+ys.length) cap e - (n+ys.length))) e
  (av.mono (Step.le s1) _ _ (av.append o3 n3)) (by intro v hv;rcases List.mem_append.1 hv with h|h;exact o4 v h;exact n5 v h)
 have aA:=s1.trans hc.own k3
 have gm:∀ k' o',(k',o')∈l1++(b',Ob.vec (cs++ys.flatten))::l2->(k',o')∈(b',Ob.vec (cs++ys.flatten))::(l1++(b,Ob.vec cs)::l2):=by
  intro k' o' hm;simp only [List.mem_append,List.mem_cons] at hm ⊢;rcases hm with h|h|h
  ·exact .inr (.inl h)
  ·exact .inl h
  exact .inr (.inr (.inr h))
 have dZ:(keys (l1++(b',Ob.vec (cs++ys.flatten))::l2)).Nodup:=by
  have dZ:=k2.nodup;rw [tI];simp only [keys,List.map_cons,List.map_append,List.nodup_cons,List.nodup_append,List.mem_append,List.mem_cons,not_or] at dZ ⊢;obtain ⟨⟨a1,a2,a3⟩,b1,⟨b2,b3⟩,b4⟩:=dZ;refine ⟨b1,⟨a3,b3⟩,fun x hx y hy=>?_⟩;rcases hy with rfl|hy
  ·rintro rfl;exact a1 hx
  exact b4 x hx y (.inr hy)
 obtain ⟨d1,d2⟩:=k2.sub gm dZ;refine hn _ _ g' _ _ (hK b') d1 ?_ (aA.trans hc.own d2);rw [aa];have sn:=grownCap_le_maxLen w (n+ys.length) cap e (by unfold maxLen;unfold aV at dL;omega);refine ⟨_,_,0,k1,rfl,rfl,tK,by unfold aq;unfold aV at dL;omega,x4,?_,fun _=>rfl,by unfold oI;unfold maxLen at sn;omega⟩;refine ⟨_,_,_,heap_alloc_new w.drew _,?_⟩;simp only [Array.size_append,List.size_toArray,size_zeroCells,lM,List.length_append,fR,o1,bR,<- hk];rw [<- Nat.add_mul,<- Nat.add_mul];have:n+ys.length+(grownCap w (n+ys.length) cap e - (n+ys.length))=grownCap w (n+ys.length) cap e:=(by omega);rw [this];omega
theorem Vk {l1 l2:ab} {b o:Nat} {cs l:List AV} {us:List Value} {p:Addr} {N:Nat} (hc:CW X g0 (l1++(b,.vec cs)::l2) w) (hp:g0.pl b=some p) (hb:World.pM w p.block N) (we:o<=cs.length) (hle:p.off+o+l.length<=N)
  (ba:av ⟨g0,live X (l1++(b,.vec cs)::l2),w⟩ l us) (ho:∀ u∈us,u.oneCell'=true) :
  (storeCells (⟨p.block,p.off+o,none⟩:Addr) us).run P w=.ok () (w.setCells p.block (p.off+o) us) /\
  (∀ M,World.pM w p.block M->World.pM (w.setCells p.block (p.off+o) us) p.block M) /\
    CW X g0 (l1++(b,.vec (cY cs o l))::l2) (w.setCells p.block (p.off+o) us) /\
    Step X g0 (l1++(b,.vec cs)::l2) w g0 (l1++(b,.vec (cY cs o l))::l2) (w.setCells p.block (p.off+o) us):=by
 have jm:=hc.obj b (.vec cs) (by simp);obtain ⟨p',cc,t,h1,h2,h3,h4,h5,h6⟩:=jm;simp only at h1 h3 h4;rw [hp] at h1;cases h1
 obtain ⟨Ir,t0,f0,q1,q2⟩:=hb;rw [h4] at q1;cases q1
 have hlen:=ba.length;have gi:p.off+o+us.length<=cc.size:=(by omega);obtain ⟨ej,e1,e2,e3,e4,e5,e6,e7,e8,e9⟩:=BP p.block us (p.off+o) w cc t (0,0) h4 gi;have im:b∈keys (l1++(b,.vec cs)::l2):=by rw [iQ];exact .inl rfl
 have aA:Step X g0 (l1++(b,.vec cs)::l2) w g0 (l1++(b,.vec (cY cs o l))::l2) (w.setCells p.block (p.off+o) us):=by
  refine ⟨e7,e8,e9,by omega,fun _ _ e=>e,fun _ _ _ e _=>e,fun _ _ _ e _=>e,fun _ _ e=>e,?_,?_,?_⟩
  ·intro aS hb hn;have aI:aS≠p.block:=fun e=>hn b 0 (e ▸ h3) im;refine ⟨e5 aS aI,fun k s hk hm=>hn k s hk ?_⟩;rw [iQ] at hm ⊢;exact hm
  ·intro aS k s hk hm dd tt ff eE;by_cases e:aS=p.block
   ·subst e;rw [h3] at hk;cases hk
    rw [h4] at eE;cases eE
    exact ⟨ej,e1,e2,fun o ho=>by omega⟩
   exact ⟨dd,(e5 aS e).trans eE,rfl,fun _ _=>rfl⟩
  intro aS k s hk _ k' s' bk _;rw [hk] at bk;cases bk;exact Nat.le_refl _
 refine ⟨?_,fun M hM=>?_,?_,aA⟩
 ·have aA:=run_storeCells_cells (P:=P) p.block (p.off+o) us 0 w
   (fun j hj=>by
     simp only [Nat.add_zero];rw [cell_of_row w p.block _ cc t _ h4];have:p.off+o+j<cc.size:=(by omega);simp [this])
   (fun j hj=>frozen_of_row w p.block _ cc t h4) ho
  simpa only [Nat.add_zero] using aA
 ·obtain ⟨Ir,t0,f0,q1,q3⟩:=hM;rw [h4] at q1;cases q1
  exact ⟨ej,t,_,e1,by omega⟩
 have gn:(cY cs o l).length=max cs.length (o+l.length):=by unfold cY;simp only [List.length_append,List.length_take,List.length_drop];omega
 refine hc.replace aA (fun aS k s hk=>by have:=hc.own _ _ _ hk;omega) (.inl rfl) (fun k hk=>.inr hk) (fun aS s k hk=>.inr ⟨aS,s,hk⟩) ?_ ?_
 ·intro aS k s hk hm
  have aI:aS≠p.block:=by
   intro e;rw [e,h3] at hk;cases hk
   exact hc.sj hm
  exact ⟨e5 aS aI,rfl⟩
 refine ⟨p,ej,t,hp,h2,h3,e1,by rw [gn];omega,?_⟩;intro i x hx;unfold cY at hx;by_cases hi:i<o
 ·rw [List.getElem?_append_left (by simp;omega),List.getElem?_append_left (by simp;omega),List.getElem?_take_of_lt hi] at hx;obtain ⟨u,hu,bD,hr⟩:=h6 i x hx;exact ⟨u,by rw [e3 _ (.inl (by omega))];exact hu,bD,aa.mono (Step.le aA) _ _ hr⟩
 by_cases aD:i<o+l.length
 ·rw [List.getElem?_append_left (by simp;omega),List.getElem?_append_right (by simp;omega)] at hx;have gz:(cs.take o).length=o:=by simp;omega
  rw [gz] at hx;obtain ⟨u,hu,hr⟩:=ba.get _ _ hx;have aL:i - o<us.length:=(List.getElem?_eq_some_iff.1 hu).1;refine ⟨u,?_,ho u (List.mem_of_getElem? hu),aa.mono (Step.le aA) _ _ hr⟩;have:=e4 (i - o) aL;rw [show p.off+o+(i - o)=p.off+i from by omega] at this;rw [this,<- hu,List.getElem?_eq_getElem aL]
 have gz:(cs.take o++l).length=o+l.length:=by simp;omega
 rw [List.getElem?_append_right (by omega),gz,List.getElem?_drop,show o+l.length+(i - (o+l.length))=i from by omega] at hx;obtain ⟨u,hu,bD,hr⟩:=h6 i x hx;exact ⟨u,by rw [e3 _ (.inr (by omega))];exact hu,bD,aa.mono (Step.le aA) _ _ hr⟩
theorem Iv {c:Cx} {cc:Array Value} {q:Addr} {cs:List AV} (h6:∀ i x,cs[i]?=some x->∃ u,cc[q.off+i]?=some u/\u.oneCell'=true/\aa c x u) :
  ∀ (l:List AV) (o:Nat),(∀ i x,l[i]?=some x->cs[o+i]?=some x) ->
   ∃ di:List Value,di.length=l.length/\(∀ (j:Nat) v,di[j]?=some v->cc[q.off+(o+j)]?=some v)/\av c l di/\∀ v∈di,v.oneCell'=true
 | [],o,_=>⟨[],rfl,by simp,by simp [av],by simp⟩
 | x::l,o,hh=>by
   obtain ⟨u,a1,a2,a3⟩:=h6 o x (by simpa using hh 0 x (by simp))
   obtain ⟨di,b1,b2,b3,b4⟩:=Iv h6 l (o+1) (fun i y hy=>by
    rw [show o+1+i=o+(i+1) from by omega];exact hh (i+1) y (by simpa using hy))
   refine ⟨u::di,by simp [b1],?_,by simp only [av];exact ⟨_,_,rfl,a3,b3⟩,?_⟩
   ·intro j v hj;cases j with
    | zero=>simp at hj;subst hj;simpa using a1
    | succ j=>
      have:=b2 j v (by simpa using hj);rw [show o+(j+1)=o+1+j from by omega];exact this
   intro v hv;rcases List.mem_cons.1 hv with rfl|hv
   ·exact a2
   exact b4 v hv
theorem Vl {l1 l2:ab} {b k n off cap:Nat} {cs:List AV} {ys:List (List AV)} {u uy:Value} {t tx ty e:TypeId} {K:AV->ab->Prop} {next:Act->World->Prop} {o:Oper}
  {Q:Exit->Act->World->Prop} (hc:CW X g0 (l1++(b,.vec cs)::l2) w) (ht:P.underlying t=some (.slice e)) (eK:rD P tx=true) (iv:1<=P.cellsOf e)
  (hk:k=P.cellsOf e) (bR:cs.length=off+n*k) (dL:n+ys.length<=aV) (jB:n+ys.length<=cap)
  (tJ:∃ news:List Value,(∀ w',(Builtin.lenOf uy).run P w'=.ok ys.length w')/\(∀ w':World,w'.heap=w.heap->(Builtin.firstCells k ys.length uy).run P w'=.ok news.toArray w') /\
    av ⟨g0,live X (l1++(b,.vec cs)::l2),w⟩ ys.flatten news/\(∀ x∈ys,x.length=k)/\(∀ v∈news,v.oneCell'=true))
  (hx:aa ⟨g0,live X (l1++(b,.vec cs)::l2),w⟩ (.eB b off n cap k) u)
  (bq:∀ s w',(Builtin.append_ #[t,tx] ty #[u,uy]).run P w=.ok s w'->(execOp a.eval o).run P w=.ok (.value s) w')
  (hK:K (.eB b off (n+ys.length) cap k) (l1++(b,.vec (cs++ys.flatten))::l2)) (hn:mH X g0 (l1++(b,.vec cs)::l2) w K o.dst a next):o.wp P a w next Q:=by
 obtain ⟨i,hi⟩:∃ i,P.info? e=some i:=by
  cases hi:P.info? e with
  | none=>simp [Program.cellsOf,hi] at iv
  | some i=>exact ⟨i,rfl⟩
 have fF:i.size=P.cellsOf e:=(by simp [Program.cellsOf,hi]);obtain ⟨news,n1,n2,n3,n4,n5⟩:=tJ;obtain ⟨q,cc,tt,h1,h2,h3,h4,h5,h6⟩:=hc.obj b (.vec cs) (by simp);simp only at h1 h3 h4;rw [aa] at hx;obtain ⟨p,hp,hs,rfl,x2,x3,x4,x5,x6⟩:=hx;simp only at hp x5;rw [h1] at hp;cases hp
 have hle:q.off+cs.length+ys.flatten.length<=q.off+off+cap*k:=by rw [kZ n4,bR];have:=Nat.mul_le_mul_right k jB;rw [Nat.add_mul] at this;omega
 obtain ⟨s1,s2,s3,s4⟩:=NU (P:=P) hc h1 x5 hle n3 n5;refine dV (bq _ _ (zA (m:=ys.length) (i:=i) ht eK hi n1 (by rw [fF,<- hk];exact n2 w rfl) jB (w':=w.setCells q.block (q.off+cs.length) news) ?_ (fun e=>by cases e))) ?_
 ·intro Io he;cases he
  have eD:(⟨q.block,q.off+off,none⟩:Addr).add (n*i.size)=⟨q.block,q.off+cs.length,none⟩:=by
   rw [bR,fF,<- hk];unfold Addr.add;split
   ·rename_i h0;rw [h0];simp
   simp [Nat.add_assoc]
  rw [eD];exact s1
 refine hn _ _ g0 _ _ hK s3 ?_ s4;rw [aa];exact ⟨q,h1,h2,rfl,jB,by unfold aq;unfold aV at dL;omega,x4,s2,x6⟩
theorem NV {b k n off cap:Nat} {cs:List AV} {ys:List (List AV)} {u uy:Value} {t tx ty e:TypeId} {K:AV->ab->Prop} {next:Act->World->Prop} {o:Oper}
  {Q:Exit->Act->World->Prop} (hc:CW X g0 h w) (cn:(b,Ob.vec cs)∈h) (ht:P.underlying t=some (.slice e)) (eK:rD P tx=true) (iv:1<=P.cellsOf e) (jI:P.bytesOf e<=4096)
  {z:List AV} (hz:iF P e=some z) (ib:z.length=P.cellsOf e) (hk:k=P.cellsOf e) (bR:n=0\/off+n*k<=cs.length) (dL:n+ys.length<=aV) (hg:cap<n+ys.length)
  (tJ:∃ news:List Value,(∀ w',(Builtin.lenOf uy).run P w'=.ok ys.length w')/\(∀ w':World,w'.heap=w.heap->(Builtin.firstCells k ys.length uy).run P w'=.ok news.toArray w') /\
    av ⟨g0,live X h,w⟩ ys.flatten news/\(∀ x∈ys,x.length=k)/\(∀ v∈news,v.oneCell'=true))
  (hx:aa ⟨g0,live X h,w⟩ (.eB b off n cap k) u)
  (bq:∀ s w',(Builtin.append_ #[t,tx] ty #[u,uy]).run P w=.ok s w'->(execOp a.eval o).run P w=.ok (.value s) w')
  (hK:∀ q,K (.aR q 0 (n+ys.length) k) ((q,.vec ((cs.drop off).take (n*k)++ys.flatten))::h)) (hn:mH X g0 h w K o.dst a next):o.wp P a w next Q:=by
 obtain ⟨i,zv,hi,fC,eN,ga⟩:=mZ (c:=⟨g0,live X h,w⟩) hz;have fF:i.size=P.cellsOf e:=(by simp [Program.cellsOf,hi]);have wk:i.bytes=P.bytesOf e:=(by simp [Program.bytesOf,hi]);have lM:zv.cells.size=P.cellsOf e:=by have:=eN.length;simp at this;omega
 obtain ⟨news,n1,n2,n3,n4,n5⟩:=tJ;have fR:news.length=ys.length*k:=(by rw [n3.length,kZ n4]);obtain ⟨q,cc,tt,h1,h2,h3,h4,h5,h6⟩:=hc.obj b (.vec cs) cn;simp only at h1 h3 h4;rw [aa] at hx;obtain ⟨p,hp,hs,rfl,x2,x3,x4,x5,x6⟩:=hx;simp only at hp x5;rw [h1] at hp;cases hp
 have lH:((cs.drop off).take (n*k)).length=n*k:=by
  rcases bR with h|h
  ·subst h;simp
  simp;omega
 obtain ⟨di,o1,o2,o3,o4⟩:=Iv (q:=q) h6 ((cs.drop off).take (n*k)) off (fun j x hj=>by
  have fP:=(List.getElem?_eq_some_iff.1 hj).1;rw [lH] at fP;rw [List.getElem?_take_of_lt fP,List.getElem?_drop] at hj;exact hj)
 have lF:=yd (P:=P) (w:=w) (ty:=ty) (i:=i) (z:=zv) (m:=ys.length) (di:=di) ht eK hi fC n1 (by rw [fF,<- hk];exact n2 w.drew rfl) (base:=some ⟨q.block,q.off+off,none⟩) (gB:=n)
  (by
    rw [fF,<- hk];refine run_firstCells_some w.drew k n ⟨q.block,q.off+off,none⟩ n cap di (by rw [o1,lH]) (fun j v hj=>?_)
    have eD:(⟨q.block,q.off+off,none⟩:Addr).add j=⟨q.block,q.off+(off+j),none⟩:=by
     unfold Addr.add;split
     ·rename_i h0;rw [h0];simp
     simp [Nat.add_assoc]
    rw [eD];have:w.drew.heap[q.block]?=some (.cells cc tt (0,0)):=h4;rw [cell_of_row w.drew q.block _ cc tt _ this];exact o2 j v hj) hg dL (by omega)
 refine dV (bq _ _ lF) ?_;obtain ⟨c1,s1⟩:=hc.drew;have tK:=grownCap_ge w (n+ys.length) cap e;have sn:=grownCap_le_maxLen w (n+ys.length) cap e (by unfold maxLen;unfold aV at dL;omega)
 obtain ⟨b',g',k1,k2,k3⟩:=c1.zC (l:=(cs.drop off).take (n*k)++ys.flatten) (us:=di++news) (Z:=Builtin.zeroCells zv.cells (grownCap w (n+ys.length) cap e - (n+ys.length))) e
  (av.mono (Step.le s1) _ _ (av.append o3 n3)) (by intro v hv;rcases List.mem_append.1 hv with h|h;exact o4 v h;exact n5 v h)
 refine hn _ _ g' _ _ (hK b') k2 ?_ (s1.trans hc.own k3);rw [aa];refine ⟨_,_,0,k1,rfl,rfl,tK,by unfold aq;unfold aV at dL;omega,x4,?_,fun _=>rfl,by unfold oI;unfold maxLen at sn;omega⟩;refine ⟨_,_,_,heap_alloc_new w.drew _,?_⟩;simp only [Array.size_append,List.size_toArray,size_zeroCells,lM,List.length_append,fR,o1,lH,<- hk];rw [<- Nat.add_mul,<- Nat.add_mul];have:n+ys.length+(grownCap w (n+ys.length) cap e - (n+ys.length))=grownCap w (n+ys.length) cap e:=(by omega);rw [this];omega
theorem Vm {b k n off cap m:Nat} {kq:IntKind} {cs:List AV} {u:Value} {t tx ty e:TypeId} {kn:IntKind} {K:AV->ab->Prop} {next:Act->World->Prop} {o:Oper}
  {Q:Exit->Act->World->Prop} (hc:CW X g0 h w) (cn:(b,Ob.vec cs)∈h) (ht:P.underlying t=some (.slice e)) (eK:P.underlying tx=some (.int kn)) (iv:1<=P.cellsOf e) (jI:P.bytesOf e<=4096)
  {z:List AV} (hz:iF P e=some z) (ib:z.length=P.cellsOf e) (hk:k=P.cellsOf e) (bR:off+n*k<=cs.length) (hm:0<m) (dL:n+m<=4294967296) (hg:cap<n+m)
  (hx:aa ⟨g0,live X h,w⟩ (.eB b off n cap k) u)
  (bq:∀ s w',(Builtin.append_ #[t,tx] ty #[u,.int kq m]).run P w=.ok s w'->(execOp a.eval o).run P w=.ok (.value s) w')
  (hK:∀ q,K (.aR q 0 (n+m) k) ((q,.vec ((cs.drop off).take (n*k)++iY m z))::h)) (hn:mH X g0 h w K o.dst a next):o.wp P a w next Q:=by
 obtain ⟨i,zv,hi,fC,eN,ga⟩:=mZ (c:=⟨g0,live X h,w⟩) hz;have fF:i.size=P.cellsOf e:=(by simp [Program.cellsOf,hi]);have wk:i.bytes=P.bytesOf e:=(by simp [Program.bytesOf,hi]);have lM:zv.cells.size=P.cellsOf e:=by have:=eN.length;simp at this;omega
 obtain ⟨q,cc,tt,h1,h2,h3,h4,h5,h6⟩:=hc.obj b (.vec cs) cn;simp only at h1 h3 h4;rw [aa] at hx;obtain ⟨p,hp,hs,rfl,x2,x3,x4,x5,x6⟩:=hx;simp only at hp x5;rw [h1] at hp;cases hp
 have lH:((cs.drop off).take (n*k)).length=n*k:=by simp;omega
 obtain ⟨di,o1,o2,o3,o4⟩:=Iv (q:=q) h6 ((cs.drop off).take (n*k)) off (fun j x hj=>by
  have fP:=(List.getElem?_eq_some_iff.1 hj).1;rw [lH] at fP;rw [List.getElem?_take_of_lt fP,List.getElem?_drop] at hj;exact hj)
 have gi:Builtin.nextslicecap (n+m) cap*i.bytes<=281474976710656:=by have h1:Builtin.nextslicecap (n+m) cap<=2*(n+m):=nextslicecap_le hg;exact Nat.le_trans (Nat.mul_le_mul h1 (by omega:i.bytes<=4096)) (by omega)
 have Vn:m*i.bytes<=281474976710656:=Nat.le_trans (Nat.mul_le_mul (by omega:m<=4294967296) (by omega:i.bytes<=4096)) (by omega)
 have lF:=Go.Lib.run_append_grow_zeros (P:=P) w t tx ty e i zv kq kn ht eK hi fC (some ⟨q.block,q.off+off,none⟩) n cap di
  (by
    rw [fF,<- hk];refine run_firstCells_some w.drew k n ⟨q.block,q.off+off,none⟩ n cap di (by rw [o1,lH]) (fun j v hj=>?_)
    have eD:(⟨q.block,q.off+off,none⟩:Addr).add j=⟨q.block,q.off+(off+j),none⟩:=by
     unfold Addr.add;split
     ·rename_i h0;rw [h0];simp
     simp [Nat.add_assoc]
    rw [eD];have:w.drew.heap[q.block]?=some (.cells cc tt (0,0)):=h4;rw [cell_of_row w.drew q.block _ cc tt _ this];exact o2 j v hj) m hm (by omega) hg (by omega) Vn gi
 refine dV (bq _ _ lF) ?_;obtain ⟨c1,s1⟩:=hc.drew;have tK:=grownCap_ge w (n+m) cap e;have sn:=grownCap_le_maxLen w (n+m) cap e (by unfold maxLen;omega);have Iw:(Builtin.zeroCells zv.cells m).toList=(List.replicate m zv.cells.toList).flatten:=ED zv.cells (by omega) m;have Vo:=av.EE eN m
 obtain ⟨b',g',k1,k2,k3⟩:=c1.zC (l:=(cs.drop off).take (n*k)++iY m z) (us:=di++(List.replicate m zv.cells.toList).flatten) (Z:=Builtin.zeroCells zv.cells (grownCap w (n+m) cap e - (n+m))) e
  (av.mono (Step.le s1) _ _ (av.append o3 Vo)) (by
    intro v hv;rcases List.mem_append.1 hv with h|h
    ·exact o4 v h
    simp only [List.mem_flatten,List.mem_replicate] at h;obtain ⟨l,⟨_,rfl⟩,hu⟩:=h;exact ga v (by simpa using hu))
 have e1:di.toArray++Builtin.zeroCells zv.cells m=(di++(List.replicate m zv.cells.toList).flatten).toArray:=by rw [<- Array.toList_inj];simp [Iw]
 rw [e1];refine hn _ _ g' _ _ (hK b') k2 ?_ (s1.trans hc.own k3);rw [aa];refine ⟨_,_,0,k1,rfl,rfl,tK,by unfold aq;omega,x4,?_,fun _=>rfl,by unfold oI;unfold maxLen at sn;omega⟩;refine ⟨_,_,_,heap_alloc_new w.drew _,?_⟩;have ke:(List.replicate m zv.cells.toList).flatten.length=m*k:=(by simp [lM,hk]);simp only [Array.size_append,List.size_toArray,size_zeroCells,lM,List.length_append,ke,o1,lH,<- hk];rw [<- Nat.add_mul,<- Nat.add_mul];have:n+m+(grownCap w (n+m) cap e - (n+m))=grownCap w (n+m) cap e:=(by omega);rw [this];omega
end Go.Abs
/-
 The abstract fB,part I: all vI DH.
-/
namespace Go.Abs
open Go
variable {P:Program} {n:Nat} {X:Nat->Prop} {g0:Gh} {r:aC} {h:ab} {a:Act} {w:World}
theorem tL {cl:Call} {t tx:TypeId} {u uy:Value} {o:Oper} {b:Array Bool} (ho:o.op=.call cl) (cM:cl.callee=.builtin .append) (bd:cl.argTypes.toList=[t,tx])
  (jv:cl.args.toList.map a.eval=[u,uy]):∀ s w',(Builtin.append_ #[t,tx] o.type #[u,uy]).run P w=.ok s w'->(execOp a.eval o).run P w=.ok (.value s) w':=by
 intro s w' hh;have h1:cl.args.map a.eval=#[u,uy]:=by rw [<- Array.toList_inj];simpa using jv
 have h2:cl.argTypes=#[t,tx]:=by rw [<- Array.toList_inj];simpa using bd
 simp [execOp,ho,resolve,cM,invoke,builtin,h1,h2,hh]
theorem NW {l1 l2:ab} {b:Nat} {es uN:List (AV × AV)} {p:Addr} {ai eh:Array MapEntry} {cl tM:Nat} (hc:CW X g0 (l1++(b,.map es)::l2) w) (hp:g0.pl b=some p) (ho:g0.ow p.block=some (b,0))
  (hb:w.heap[p.block]?=some (.map ai cl)) (he:eC ⟨g0,live X (l1++(b,.map es)::l2),w⟩ uN eh.toList) (h1:∀ x∈eh.toList,x.born<tM) (h2:(eh.toList.map (·.born)).Nodup) :
  (setObj p.block (.map eh tM)).run P w=.ok () { w with heap:=w.heap.setIfInBounds p.block (.map eh tM) } /\
  CW X g0 (l1++(b,.map uN)::l2) { w with heap:=w.heap.setIfInBounds p.block (.map eh tM) } /\
  Step X g0 (l1++(b,.map es)::l2) w g0 (l1++(b,.map uN)::l2) { w with heap:=w.heap.setIfInBounds p.block (.map eh tM) }:=by
 have aL:p.block<w.heap.size:=(Array.getElem?_eq_some_iff.1 hb).1;have sm:∀ aS,aS≠p.block->(w.heap.setIfInBounds p.block (.map eh tM))[aS]?=w.heap[aS]?:=fun aS aI=>Array.getElem?_setIfInBounds_ne (Ne.symm aI);have im:b∈keys (l1++(b,.map es)::l2):=by rw [iQ];exact .inl rfl
 have aA:Step X g0 (l1++(b,.map es)::l2) w g0 (l1++(b,.map uN)::l2) { w with heap:=w.heap.setIfInBounds p.block (.map eh tM) }:=by
  refine ⟨rfl,⟨rfl,Nat.le_refl _⟩,rfl,by simp,fun _ _ e=>e,fun _ _ _ e _=>e,fun _ _ _ e _=>e,fun _ _ e=>e,?_,?_,?_⟩
  ·intro aS aL hn;have aI:aS≠p.block:=fun e=>hn b 0 (e ▸ ho) im;refine ⟨sm aS aI,fun k s hk hm=>hn k s hk ?_⟩;rw [iQ] at hm ⊢;exact hm
  ·intro aS k s hk hm dd tt ff eE;by_cases e:aS=p.block
   ·subst e;rw [hb] at eE;cases eE
   exact ⟨dd,(sm aS e).trans eE,rfl,fun _ _=>rfl⟩
  intro aS k s hk _ k' s' bk _;rw [hk] at bk;cases bk;exact Nat.le_refl _
 refine ⟨by simp [setObj,Sem.run,hb],?_,aA⟩;refine hc.replace aA (fun aS k s hk=>by have:=hc.own _ _ _ hk;simpa using this) (.inl rfl) (fun k hk=>.inr hk) (fun aS s k hk=>.inr ⟨aS,s,hk⟩) ?_ ?_
 ·intro aS k s hk hm
  have aI:aS≠p.block:=by
   intro e;rw [e,ho] at hk;cases hk
   exact hc.sj hm
  exact ⟨sm aS aI,rfl⟩
 exact ⟨p,tM,eh,hp,ho,by simp [aL],eC.mono (Step.le aA) he,h1,h2⟩
theorem eC.append {c:Cx}:∀ {es:List (AV × AV)} {ai:List MapEntry} {k v:AV} {e:MapEntry},eC c es ai->aa c k e.key->aa c v e.val->eC c (es++[(k,v)]) (ai++[e])
 | [],ai,k,v,e,h,h1,h2=>by simp [eC] at h;subst h;exact ⟨e,[],rfl,h1,h2,rfl⟩
 | x::es,ai,k,v,e,h,h1,h2=>by obtain ⟨e',r,rfl,a1,a2,a3⟩:=h;exact ⟨e',r++[e],rfl,a1,a2,eC.append a3 h1 h2⟩
theorem Vp (l:List MapEntry) (j:Nat) (u v:Value):(l.modify j fun e=>{ e with key:=u,val:=v }).map (·.born)=l.map (·.born):=by
 induction l generalizing j with
 | nil=>cases j<;>rfl
 | cons y l ih=>
   cases j with
   | zero=>rfl
   | succ j=>
     rw [List.modify_succ_cons,List.map_cons,List.map_cons,ih j]
theorem yg {b2 o2 n2 k2:Nat} {cs:List AV} {ys:List (List AV)} {u:Value} (hc:CW X g0 h w) (cn:(b2,Ob.vec cs)∈h) (hu:aa ⟨g0,live X h,w⟩ (.aR b2 o2 n2 k2) u)
  (bR:(cs.drop o2).take (n2*k2)=ys.flatten) (lN:∀ z∈ys,z.length=k2) (gp:ys.length=n2) :
  ∃ news:List Value,(∀ w',(Builtin.lenOf u).run P w'=.ok ys.length w')/\(∀ w':World,w'.heap=w.heap->(Builtin.firstCells k2 ys.length u).run P w'=.ok news.toArray w') /\
   av ⟨g0,live X h,w⟩ ys.flatten news/\(∀ x∈ys,x.length=k2)/\(∀ v∈news,v.oneCell'=true):=by
 simp only [aa] at hu;obtain ⟨p,cap,Ix,hp,iH,rfl,x2,x3,x4,x5,x6,x7⟩:=hu;obtain ⟨q,cc,t,h1,h2,h3,h4,h5,h6⟩:=hc.obj b2 _ cn;simp only at h1 h3 h4 hp;rw [hp] at h1;cases h1
 have eO:ys.flatten.length=n2*k2:=(by rw [kZ lN,gp]);have hlen:o2+n2*k2<=cs.length\/n2*k2=0:=by have:=congrArg List.length bR;rw [eO,List.length_take,List.length_drop] at this;omega
 have lg:∀ j,j<n2*k2->∃ x,ys.flatten[j]?=some x/\cc[p.off+(o2+j)]?=some (cc[p.off+(o2+j)]!)/\(cc[p.off+(o2+j)]!).oneCell'=true/\aa ⟨g0,live X h,w⟩ x (cc[p.off+(o2+j)]!):=by
  intro j hj;have er:o2+j<cs.length:=(by omega);have hg:ys.flatten[j]?=some cs[o2+j]:=(by rw [<- bR,List.getElem?_take_of_lt hj,List.getElem?_drop,List.getElem?_eq_getElem er]);obtain ⟨v,a1,a2,a3⟩:=h6 (o2+j) cs[o2+j] (List.getElem?_eq_getElem er);have hv:cc[p.off+(o2+j)]! = v:=by have wm:=(Array.getElem?_eq_some_iff.1 a1).1;rw [getElem!_pos cc _ wm];exact (Array.getElem?_eq_some_iff.1 a1).2
  exact ⟨_,hg,by rw [hv];exact a1,by rw [hv];exact a2,by rw [hv];exact a3⟩
 have fR:((List.range (n2*k2)).map fun j=>cc[p.off+(o2+j)]!).length=n2*k2:=(by simp);have NX:∀ j,j<n2*k2->((List.range (n2*k2)).map fun j=>cc[p.off+(o2+j)]!)[j]?=some (cc[p.off+(o2+j)]!):=fun j hj=>by simp [hj]
 have cG:∀ {xs:List AV} {us:List Value},xs.length=us.length->(∀ (i:Nat) x u,xs[i]?=some x->us[i]?=some u->aa ⟨g0,live X h,w⟩ x u)->av ⟨g0,live X h,w⟩ xs us:=by
  intro xs;induction xs with
  | nil=>intro us hl _;have:us=[]:=List.eq_nil_of_length_eq_zero (by simpa using hl.symm);subst this;simp [av]
  | cons x xs ih=>
    intro us hl hh
    match us,hl with
    | v::us,hl=>
      simp only [av];exact ⟨v,us,rfl,hh 0 x v rfl rfl,ih (by simpa using hl) fun i x u h1 h2=>hh (i+1) x u (by simpa using h1) (by simpa using h2)⟩
 refine ⟨(List.range (n2*k2)).map fun j=>cc[p.off+(o2+j)]!,fun w'=>by simp [Builtin.lenOf,gp],fun w' hw=>?_,cG (by rw [eO,fR]) fun j x v hx hv=>?_,lN,fun v hv=>?_⟩
 ·rw [gp];refine run_firstCells_some w' k2 n2 ⟨p.block,p.off+Ix,none⟩ n2 cap _ fR (fun j v hj=>?_);have er:j<n2*k2:=by have:=(List.getElem?_eq_some_iff.1 hj).1;rw [fR] at this;exact this
  have dx:0<n2:=by
   rcases Nat.eq_zero_or_pos n2 with h|h
   ·subst h;simp at er
   exact h
  have:=x6 (by omega);subst this;rw [NX j er] at hj;cases hj
  obtain ⟨_,_,a1,_,_⟩:=lg j er
  have eD:(⟨p.block,p.off+Ix,none⟩:Addr).add j=⟨p.block,p.off+(Ix+j),none⟩:=by
   unfold Addr.add;split
   ·rename_i h0;rw [h0];simp
   simp [Nat.add_assoc]
  rw [eD];simp only [World.cell?,hw,h4];simpa using a1
 ·have er:j<n2*k2:=by have:=(List.getElem?_eq_some_iff.1 hv).1;rw [fR] at this;exact this
  rw [NX j er] at hv;cases hv
  obtain ⟨x',b1,_,_,b4⟩:=lg j er;rw [hx] at b1;cases b1
  exact b4
 obtain ⟨j,hj,rfl⟩:=List.mem_map.1 hv;exact (lg j (List.mem_range.1 hj)).choose_spec.2.2.1
theorem NY {r pos:Nat} {b:ByteArray} (h:w.heap[r]?=some (.stringIter b pos)):(getObj r).run P w=.ok (.stringIter b pos) w:=by simp [getObj,Sem.run,h]
theorem Vq {l1 l2:ab} {b pos pos':Nat} {s:List UInt8} {bs:ByteArray} {p:Addr} (hc:CW X g0 (l1++(b,.nT s pos)::l2) w) (hp:g0.pl b=some p) (ho:g0.ow p.block=some (b,0))
  (hb:w.heap[p.block]?=some (.stringIter bs pos)) (hs:bs.data.toList=s) (hl:s.length<=aq) :
  (setObj p.block (.stringIter bs pos')).run P w=.ok () { w with heap:=w.heap.setIfInBounds p.block (.stringIter bs pos') } /\
  CW X g0 (l1++(b,.nT s pos')::l2) { w with heap:=w.heap.setIfInBounds p.block (.stringIter bs pos') } /\
  Step X g0 (l1++(b,.nT s pos)::l2) w g0 (l1++(b,.nT s pos')::l2) { w with heap:=w.heap.setIfInBounds p.block (.stringIter bs pos') }:=by
 have aL:p.block<w.heap.size:=(Array.getElem?_eq_some_iff.1 hb).1;have sm:∀ aS,aS≠p.block->(w.heap.setIfInBounds p.block (.stringIter bs pos'))[aS]?=w.heap[aS]?:=fun aS aI=>Array.getElem?_setIfInBounds_ne (Ne.symm aI);have im:b∈keys (l1++(b,.nT s pos)::l2):=by rw [iQ];exact .inl rfl
 have aA:Step X g0 (l1++(b,.nT s pos)::l2) w g0 (l1++(b,.nT s pos')::l2) { w with heap:=w.heap.setIfInBounds p.block (.stringIter bs pos') }:=by
  refine ⟨rfl,⟨rfl,Nat.le_refl _⟩,rfl,by simp,fun _ _ e=>e,fun _ _ _ e _=>e,fun _ _ _ e _=>e,fun _ _ e=>e,?_,?_,?_⟩
  ·intro aS aL hn;have aI:aS≠p.block:=fun e=>hn b 0 (e ▸ ho) im;refine ⟨sm aS aI,fun k s hk hm=>hn k s hk ?_⟩;rw [iQ] at hm ⊢;exact hm
  ·intro aS k s hk hm dd tt ff eE;by_cases e:aS=p.block
   ·subst e;rw [hb] at eE;cases eE
   exact ⟨dd,(sm aS e).trans eE,rfl,fun _ _=>rfl⟩
  intro aS k s hk _ k' s' bk _;rw [hk] at bk;cases bk;exact Nat.le_refl _
 refine ⟨by simp [setObj,Sem.run,hb],?_,aA⟩;refine hc.replace aA (fun aS k s hk=>by have:=hc.own _ _ _ hk;simpa using this) (.inl rfl) (fun k hk=>.inr hk) (fun aS s k hk=>.inr ⟨aS,s,hk⟩) ?_ ?_
 ·intro aS k s hk hm
  have aI:aS≠p.block:=by
   intro e;rw [e,ho] at hk;cases hk
   exact hc.sj hm
  exact ⟨sm aS aI,rfl⟩
 exact ⟨p,bs,hp,ho,by simp [aL],hs,hl⟩
theorem Iy {N:Nat} {dst:Option Tmp} {cl:Call} {ty:TypeId} {pos:String} {gw:Array Edge} {gd:Option (Nat × Bool)} {t tx e:TypeId} {b o m k n:Nat} {cs:List AV} {ys:List (List AV)} {r:aC} {h h':ab} {a:Act} {w:World} {u uy:Value} {news:List Value} {K:AV->ab->Prop} {next:Act->World->Prop} {Q:Exit->Act->World->Prop}
  (hc:bK N X g0 r h a w) (bl:P.underlying t=some (.slice e)) (hk:k=P.cellsOf e) (cL:1<=P.cellsOf e) (hu:cH b (.vec cs) b (.vec (cY cs o ys.flatten)) h h') (h1:aa ⟨g0,live X h,w⟩ (.aR b o m k) u)
  (cM:cl.callee=.builtin .copy) (cR:cl.argTypes.toList=[t,tx]) (e1:List.map a.eval cl.args.toList=[u,uy]) (hle:o+ys.flatten.length<=cs.length) (mI:0<m)
  (hK:K (.int .i64 ys.length) h') (hn:mH X g0 h w K dst a next) (yh:ys.length=min n m) (hlen:∀ w',(Builtin.lenOf uy).run P w'=.ok n w')
  (kg:∀ w':World,w'.heap=w.heap->(Builtin.firstCells (P.cellsOf e) ys.length uy).run P w'=.ok news.toArray w') (cG:av ⟨g0,live X h,w⟩ ys.flatten news) (lL:∀ v∈news,v.oneCell'=true) :
  (⟨dst,.call cl,ty,pos,gw,gd⟩:Oper).wp P a w next Q:=by
 obtain ⟨l1,l2,rfl,rfl⟩:=cH.split hu;obtain ⟨p,cap,x1,x2,rfl,x3,x4,x5,x6,_⟩:=h1.AM mI;simp only at x1;obtain ⟨q,cc,tt,p1,p2,p3,p4,p5,p6⟩:=EB (o:=o) hc.cw hle cG lL;rw [x1] at p1;cases p1
 refine dV (u:=goInt ys.length) (w':=w.setCells p.block (p.off+o) news) ?_ (hn (.int .i64 ys.length) _ g0 _ _ hK p5 (by
  rw [aa];refine ⟨rfl,?_⟩;unfold aq at x4;simp [IntKind.has,IntKind.min,IntKind.max,IntKind.signed,IntKind.bits];omega) p6)
 have h1:cl.args.map a.eval=#[.slice (some ⟨p.block,p.off+o,none⟩) m cap,uy]:=by rw [<- Array.toList_inj];simpa using e1
 have h2:cl.argTypes=#[t,tx]:=by rw [<- Array.toList_inj];simpa using cR
 have aA:=run_storeCells_cells (P:=P) p.block (p.off+o) news 0 w
  (fun j hj=>by
    simp only [Nat.add_zero];rw [cell_of_row w p.block (p.off+o+j) cc tt _ p3];have:p.off+o+j<cc.size:=(by omega);simp [this])
  (fun j hj=>frozen_of_row w p.block _ cc tt p3) lL
 simp only [Nat.add_zero] at aA
 obtain ⟨i,hi,yi⟩:∃ i,P.info? e=some i/\i.size=P.cellsOf e:=by
  cases hi:P.info? e with
  | none=>simp [Program.cellsOf,hi] at cL
  | some i=>exact ⟨i,rfl,by simp [Program.cellsOf,hi]⟩
 have BS:(Builtin.copy_ #[t,tx] ty #[.slice (some ⟨p.block,p.off+o,none⟩) m cap,uy]).run P w=.ok (goInt ys.length) (w.setCells p.block (p.off+o) news):=by have hf:=kg w rfl;simp only [Builtin.copy_,List.getElem?_toArray,List.getElem?_cons_zero,List.getElem?_cons_succ,Sem.run_bind,cC bl,Result.andThen_ok,hlen,sizeOf,typeInfo,run_program,hi,yi];have Iz:Nat.min n m=ys.length:=yh.symm;simp only [Iz,Sem.run_pure,Result.andThen_ok,yi,hf,aA]
 simp [execOp,resolve,cM,invoke,builtin,h1,h2,BS]
theorem Vr {c:Cx} {b2 o2 n2 k2 m:Nat} {u2:Value} (h2:aa c (.aR b2 o2 n2 k2) u2):(∀ w',(Builtin.lenOf u2).run P w'=.ok n2 w') /\
  ∃ qY,aa c (.aR b2 o2 (min n2 m) k2) qY/\(∀ c j,Builtin.firstCells c j u2=Builtin.firstCells c j qY):=by
 rw [aa] at h2;obtain ⟨p,cap,o',x1,x2,rfl,x3,x4,x5,x6,x7,x8⟩:=h2;refine ⟨fun w'=>by simp [Builtin.lenOf],.slice (some ⟨p.block,p.off+o',none⟩) (min n2 m) cap,?_,fun c j=>rfl⟩;rw [aa];exact ⟨p,cap,o',x1,x2,rfl,by omega,by omega,x5,x6,x7,x8⟩
theorem NZ {c:Cx} {b2 o2 n2 c2 k2 m:Nat} {u2:Value} (h2:aa c (.eB b2 o2 n2 c2 k2) u2):(∀ w',(Builtin.lenOf u2).run P w'=.ok n2 w') /\
  ∃ qY,aa c (.aR b2 o2 (min n2 m) k2) qY/\(∀ c j,Builtin.firstCells c j u2=Builtin.firstCells c j qY):=by
 rw [aa] at h2;obtain ⟨p,x1,x2,rfl,x3,x4,x5,x6,x8⟩:=h2;refine ⟨fun w'=>by simp [Builtin.lenOf],.slice (some ⟨p.block,p.off+o2,none⟩) (min n2 m) c2,?_,fun c j=>rfl⟩;rw [aa];exact ⟨p,c2,o2,x1,x2,rfl,by omega,by omega,x5,x6,fun _=>rfl,x8⟩
theorem Oa {N:Nat} {dst:Option Tmp} {cl:Call} {ty:TypeId} {pos:String} {gw:Array Edge} {gd:Option (Nat × Bool)} {t tx e:TypeId} {b o m k n c:Nat} {cs:List AV} {ys:List (List AV)} {r:aC} {h h':ab} {a:Act} {w:World} {u uy:Value} {news:List Value} {K:AV->ab->Prop} {next:Act->World->Prop} {Q:Exit->Act->World->Prop}
  (hc:bK N X g0 r h a w) (bl:P.underlying t=some (.slice e)) (hk:k=P.cellsOf e) (cL:1<=P.cellsOf e) (hu:cH b (.vec cs) b (.vec (cY cs o ys.flatten)) h h') (h1:aa ⟨g0,live X h,w⟩ (.eB b o m c k) u)
  (cM:cl.callee=.builtin .copy) (cR:cl.argTypes.toList=[t,tx]) (e1:List.map a.eval cl.args.toList=[u,uy]) (hle:o<=cs.length) (BM:ys.flatten.length<=m*k)
  (hK:K (.int .i64 ys.length) h') (hn:mH X g0 h w K dst a next) (yh:ys.length=min n m) (hlen:∀ w',(Builtin.lenOf uy).run P w'=.ok n w')
  (kg:∀ w':World,w'.heap=w.heap->(Builtin.firstCells (P.cellsOf e) ys.length uy).run P w'=.ok news.toArray w') (cG:av ⟨g0,live X h,w⟩ ys.flatten news) (lL:∀ v∈news,v.oneCell'=true) :
  (⟨dst,.call cl,ty,pos,gw,gd⟩:Oper).wp P a w next Q:=by
 obtain ⟨l1,l2,rfl,rfl⟩:=cH.split hu;rw [aa] at h1;obtain ⟨p,x1,x2,rfl,x3,x4,x5,x6,x7⟩:=h1;simp only at x1 x6;obtain ⟨aA,_,p5,p6⟩:=Vk (P:=P) (o:=o) hc.cw x1 x6 hle (by have:=Nat.mul_le_mul_right k x3;omega) cG lL
 refine dV (u:=goInt ys.length) (w':=w.setCells p.block (p.off+o) news) ?_ (hn (.int .i64 ys.length) _ g0 _ _ hK p5 (by
  rw [aa];refine ⟨rfl,?_⟩;unfold aq at x4;simp [IntKind.has,IntKind.min,IntKind.max,IntKind.signed,IntKind.bits];omega) p6)
 have h1:cl.args.map a.eval=#[.slice (some ⟨p.block,p.off+o,none⟩) m c,uy]:=by rw [<- Array.toList_inj];simpa using e1
 have h2:cl.argTypes=#[t,tx]:=by rw [<- Array.toList_inj];simpa using cR
 obtain ⟨i,hi,yi⟩:∃ i,P.info? e=some i/\i.size=P.cellsOf e:=by
  cases hi:P.info? e with
  | none=>simp [Program.cellsOf,hi] at cL
  | some i=>exact ⟨i,rfl,by simp [Program.cellsOf,hi]⟩
 have BS:(Builtin.copy_ #[t,tx] ty #[.slice (some ⟨p.block,p.off+o,none⟩) m c,uy]).run P w=.ok (goInt ys.length) (w.setCells p.block (p.off+o) news):=by have hf:=kg w rfl;simp only [Builtin.copy_,List.getElem?_toArray,List.getElem?_cons_zero,List.getElem?_cons_succ,Sem.run_bind,cC bl,Result.andThen_ok,hlen,sizeOf,typeInfo,run_program,hi,yi];have Iz:Nat.min n m=ys.length:=yh.symm;simp only [Iz,Sem.run_pure,Result.andThen_ok,yi,hf,aA]
 simp [execOp,resolve,cM,invoke,builtin,h1,h2,BS]
theorem BT {o:Oper} {K:AV->ab->Prop} {next:Act->World->Prop} {Q:Exit->Act->World->Prop}
  (hq:cz P r h K o.op) (hc:bK n X g0 r h a w) (hn:mH X g0 h w K o.dst a next):o.wp P a w next Q:=by
 have ck:cZ a []:=fun e he=>by cases he
 obtain ⟨dst,op,ty,pos,gw,gd⟩:=o;simp only at hq hn;cases op
 case binOp op t x y yt=>
  cases op<;>try (simp [cz] at hq;done)
  simp only [cz] at hq;cases hx:aM r [] x with
  | none=>simp [hx] at hq
  | some u=>
    cases u<;>try (simp [hx] at hq;done)
    rename_i k1 a1;cases k1<;>try (simp [hx] at hq;done)
    simp only [hx] at hq;cases hy:aM r [] y with
    | none=>simp [hy] at hq
    | some v=>
      cases v<;>try (simp [hy] at hq;done)
      rename_i k2 a2;cases k2<;>try (simp [hy] at hq;done)
      simp only [hy] at hq;have hu:=hc.aM ck hx;have hv:=hc.aM ck hy;rw [aa] at hu hv;obtain ⟨hu,_⟩:=hu;obtain ⟨hv,_⟩:=hv;refine dV (u:=.int .i64 (IntKind.i64.wrap (a1+a2))) (w':=w) ?_ (hn _ _ g0 _ _ hq hc.cw ?_ (Step.refl _ _ _ _))
      ·simp [execOp,hu,hv,eW,binOp,Op.intArith]
      rw [aa];refine ⟨rfl,?_⟩;constructor<;>simp [IntKind.min,IntKind.max,IntKind.wrap,IntKind.signed,IntKind.bits]<;>(try split)<;>omega
 case box t x=>
  simp only [cz] at hq;cases hx:aM r [] x with
  | none=>simp [hx] at hq
  | some v=>
    simp only [hx] at hq;cases hv:pL v with
    | none=>simp [hv] at hq
    | some l=>
      simp only [hv] at hq;split at hq
      ·have hr:=hc.aM ck hx;obtain ⟨h1,h2⟩:=za hv hr;obtain ⟨k,g',k1,k2,k3⟩:=hc.cw.BQ t h1 h2;refine dV (u:=.pointer (some ⟨w.heap.size,0,none⟩)) (w':=w.alloc (.cells (a.eval x).cells t)) ?_ (hn _ _ g' _ _ (hq k) k2 ?_ k3)
       ·simp [execOp,Instr.box,newVar,newRow]
       rw [aa];exact ⟨_,k1,rfl,rfl⟩
      exact hq.elim
 case alloc t=>
  simp only [cz] at hq;cases hz:iF P t with
  | none=>simp [hz] at hq
  | some z=>
    simp only [hz] at hq;obtain ⟨i,zv,hi,fC,eN,ga⟩:=mZ (c:=⟨g0,live X h,w⟩) hz;obtain ⟨k,g',k1,k2,k3⟩:=hc.cw.BQ t eN ga;refine dV (u:=.pointer (some ⟨w.heap.size,0,none⟩)) (w':=w.alloc (.cells zv.cells t)) ?_ (hn _ _ g' _ _ (hq k) k2 ?_ k3)
    ·simp [execOp,Instr.alloc,newVar,newRow,zeroValue,typeInfo,hi,fC]
    rw [aa];exact ⟨_,k1,rfl,rfl⟩
 case store t x y=>
  simp only [cz] at hq;cases hx:aM r [] x with
  | none=>simp [hx] at hq
  | some vx=>
    have gb:=hc.aM ck hx;cases vx<;>try (simp [hx] at hq;done)
    rename_i b qL;simp only [hx] at hq;cases hy:aM r [] y with
    | none=>simp [hy] at hq
    | some v=>
      simp only [hy] at hq;cases hv:pL v with
      | none=>simp [hv] at hq
      | some l=>
        simp only [hv] at hq;split at hq<;>try contradiction
        rename_i hlen;have hlen:=Nat.eq_of_beq_eq_true hlen;obtain ⟨cs,h',hu,⟨eF,hle⟩,hK⟩:=hq;obtain ⟨l1,l2,rfl,rfl⟩:=cH.split hu;obtain ⟨r1,r2⟩:=za hv (hc.aM ck hy);obtain ⟨p,cc,tt,p1,p2,p3,p4,p5,p6⟩:=EB hc.cw hle r1 (by intro u hu;exact r2 u (by simpa using hu));rw [aa] at gb;obtain ⟨p',q1,q2,q3⟩:=gb;simp only at q1;rw [p1] at q1;cases q1
        have BU:=r1.length;simp at BU;refine DB (w':=w.setCells p.block (p.off+qL) (a.eval y).cells.toList) ?_ (hn .unit _ g0 _ _ hK p5 (by simp [aa]) p6);have:=NO (P:=P) (w:=w) (t:=t) (b:=p.block) (o:=p.off+qL) (u:=a.eval y) (by omega) (by omega) p3 (by simp at p4;omega) r2;simp [execOp,q3,this]
 case makeMap t rr=>
  cases rr with
  | some _=>simp [cz] at hq
  | none=>
    simp only [cz] at hq;obtain ⟨k,f1,f2,st,mk⟩:=hc.cw.newAt (.map #[] 0) 0;refine dV (u:=.map (some w.heap.size)) (w':=w.alloc (.map #[] 0)) ?_ (hn _ _ _ _ _ (hq k) (mk (.map []) ?_) ?_ (st _))
    ·have hm:(Instr.makeMap t none).run P w=.ok (.map (some w.heap.size)) (w.alloc (.map #[] 0)):=rfl;simp only [execOp,Option.map_none,hm,Sem.run_bind,Result.andThen,Sem.run_pure]
    ·exact ⟨⟨w.heap.size,0,none⟩,0,#[],by simp [Gh.set],by simp [Gh.set],heap_alloc_new w _,rfl,by simp,by simp⟩
    rw [aa];exact ⟨⟨w.heap.size,0,none⟩,by simp [Gh.set],rfl⟩
 case mapUpdate t m k x=>
  simp only [cz] at hq;split at hq<;>try contradiction
  rename_i kt et bd;split at hq<;>try contradiction
  rename_i b hm;split at hq<;>try contradiction
  rename_i kv hk;split at hq<;>try contradiction
  rename_i v hv;obtain ⟨es,h',hu,⟨gi,lg⟩,hK⟩:=hq;obtain ⟨l1,l2,rfl,rfl⟩:=cH.split hu;have BV:=hc.aM ck hm;have um:=hc.aM ck hk;have mY:=hc.aM ck hv;rw [aa] at BV;obtain ⟨p,hp,tN⟩:=BV;obtain ⟨p',cl,ai,o1,o2,o3,o4,o5,o6⟩:=hc.cw.obj b (.map es) (by simp);simp only at o1 o2 o3;rw [hp] at o1;cases o1
  have fO:=GG (P:=P) (w:=w) gi um false 9998;cases hg:qE P kt kv es with
  | none=>exact absurd hg lg
  | some r0=>
    obtain ⟨res,r1,r2⟩:=DG (P:=P) (w:=w) gi um o4 hg;cases r0 with
    | none=>
      obtain ⟨rfl,iA⟩:=r2
      obtain ⟨s1,s2,s3⟩:=NW (P:=P) (uN:=oK P kt kv v es) (eh:=ai.push { key:=a.eval k,val:=a.eval x,born:=cl }) (tM:=cl+1) hc.cw hp o2 o3
       (by rw [iA v,Array.toList_push];exact eC.append o4 um mY)
       (by
         intro y hy;rw [Array.toList_push] at hy;rcases List.mem_append.1 hy with hy|hy
         ·have:=o5 y hy;omega
         simp at hy;subst hy;simp)
       (by
         rw [Array.toList_push,List.map_append,List.nodup_append];refine ⟨o6,by simp,?_⟩;intro q hq z hz e;simp at hz;subst hz;obtain ⟨y,hy,rfl⟩:=List.mem_map.1 hq;have:=o5 y hy;omega)
      refine DB (w':={ w with heap:=w.heap.setIfInBounds p.block (.map (ai.push { key:=a.eval k,val:=a.eval x,born:=cl }) (cl+1)) }) ?_ (hn .unit _ g0 _ _ hK s2 (by simp [aa]) s3);have qe:(getObj p.block).run P w=.ok (.map ai cl) w:=(by simp [getObj,Sem.run,o3]);simp only [execOp,tN,Instr.mapUpdate,Sem.run_bind,cC bd,Result.andThen_ok,qe,fO,r1,s1,Sem.run_pure]
    | some v0=>
      obtain ⟨j,e,rfl,q2,q3,q4,q5⟩:=r2;have Oc:=Vp ai.toList j (a.eval k) (a.eval x)
      obtain ⟨s1,s2,s3⟩:=NW (P:=P) (uN:=oK P kt kv v es) (eh:=ai.modify j fun e=>{ e with key:=a.eval k,val:=a.eval x }) (tM:=cl) hc.cw hp o2 o3
       (q5 v (a.eval x) mY)
       (by
         intro y hy;rw [Array.toList_modify] at hy;have Vs:y.born∈ai.toList.map (·.born):=by rw [<- Oc];exact List.mem_map.2 ⟨y,hy,rfl⟩
         obtain ⟨z,hz,e⟩:=List.mem_map.1 Vs;have:=o5 z hz;omega)
       (by rw [Array.toList_modify,Oc];exact o6)
      refine DB (w':={ w with heap:=w.heap.setIfInBounds p.block (.map (ai.modify j fun e=>{ e with key:=a.eval k,val:=a.eval x }) cl) }) ?_ (hn .unit _ g0 _ _ hK s2 (by simp [aa]) s3);have qe:(getObj p.block).run P w=.ok (.map ai cl) w:=(by simp [getObj,Sem.run,o3]);have Vt:(Instr.keyThatStays e.key (a.eval k)).run P w=.ok (a.eval k) w:=(by simp [Instr.keyThatStays,q4]);simp only [execOp,tN,Instr.mapUpdate,Sem.run_bind,cC bd,Result.andThen_ok,qe,fO,r1,q2,Option.map_some,Option.getD_some,Vt,s1,Sem.run_pure]
 case range t x=>
  simp only [cz] at hq;split at hq<;>try contradiction
  ·rename_i kt et bd;split at hq<;>try contradiction
   rename_i m hm;obtain ⟨es,cn,hK⟩:=hq;have BV:=hc.aM ck hm;rw [aa] at BV;obtain ⟨p,hp,tN⟩:=BV;obtain ⟨l1,l2,rfl⟩:=List.append_of_mem cn;obtain ⟨p',bs,cl,ai,o1,o2,o3,o4,o5,o6⟩:=Ve hc.cw;simp only at hp;rw [hp] at o3;cases o3
   obtain ⟨h',hu,hK⟩:=hK bs cl ⟨o1,o2⟩;have hh:h'=l1++(m,.ub es bs cl)::l2:=by obtain ⟨m1,m2,e1,rfl⟩:=cH.split hu;have dZ:=hc.cw.nodup;obtain ⟨rfl,rfl⟩:=Iq dZ e1;rfl
   subst hh;obtain ⟨it,f1,f2,st,mk⟩:=o5.newAt (.mapIter (some p.block) cl #[] cl) 0;refine dV (u:=.pointer (some ⟨w.heap.size,0,none⟩)) (w':=w.alloc (.mapIter (some p.block) cl #[] cl)) ?_ (hn _ _ _ _ _ (hK it) (mk _ ?_) ?_ (o6.trans hc.cw.own (st _)))
   ·have bq:=run_range_map (P:=P) w t kt et p.block ai cl bd o4;simp only [execOp,tN,bq,Sem.run_bind,Result.andThen,Sem.run_pure]
   ·have aI:m≠it:=fun e=>f1 (by rw [<- e,iQ];exact .inl rfl);exact ⟨⟨w.heap.size,0,none⟩,p,#[],by simp [Gh.set],by simp [Gh.set],heap_alloc_new w _,by simp [Gh.set,aI,hp],rfl⟩
   rw [aa];exact ⟨⟨w.heap.size,0,none⟩,by simp [Gh.set],rfl⟩
  rename_i bd;split at hq<;>try contradiction
  rename_i s hx;have gb:=hc.aM ck hx;rw [aa] at gb;obtain ⟨bs,qZ,zD,gn⟩:=gb;obtain ⟨it,f1,f2,st,mk⟩:=hc.cw.newAt (.stringIter bs 0) 0;refine dV (u:=.pointer (some ⟨w.heap.size,0,none⟩)) (w':=w.alloc (.stringIter bs 0)) ?_ (hn _ _ _ _ _ (hq it) (mk _ ?_) ?_ (st _))
  ·have bq:(Instr.range t (.string bs)).run P w=.ok (.pointer (some ⟨w.heap.size,0,none⟩)) (w.alloc (.stringIter bs 0)):=by
    simp only [Instr.range,Sem.run_bind,cC bd,Result.andThen_ok,Sem.run_pure];rfl
   simp only [execOp,qZ,bq,Sem.run_bind,Result.andThen,Sem.run_pure]
  ·exact ⟨⟨w.heap.size,0,none⟩,bs,by simp [Gh.set],by simp [Gh.set],heap_alloc_new w _,zD,gn⟩
  rw [aa];exact ⟨⟨w.heap.size,0,none⟩,by simp [Gh.set],rfl⟩
 case next x sb=>
  cases sb with
  | true=>
    simp only [cz] at hq;split at hq<;>try contradiction
    rename_i it hx;obtain ⟨s,pos,cn,zG,qe⟩:=hq;have gb:=hc.aM ck hx;rw [aa] at gb;obtain ⟨p,hp,qZ⟩:=gb;obtain ⟨p',bs,i1,i2,i3,i4,i5⟩:=hc.cw.obj it _ cn;simp only at i1 hp i2 i3;rw [hp] at i1;cases i1
    have ia:bs.size=s.length:=by rw [<- i4];rfl
    have zD:bs=⟨s.toArray⟩:=(by rw [<- i4]);by_cases eF:pos<s.length
    ·obtain ⟨h',hu,hK⟩:=qe eF;obtain ⟨l1,l2,rfl,rfl⟩:=cH.split hu;have Od:Utf8.decode bs pos=kz s pos:=by rw [zD];rfl
     obtain ⟨s1,s2,s3⟩:=Vq (P:=P) (pos':=pos+(kz s pos).2) hc.cw hp i2 i3 i4 i5;refine dV (u:=.tuple #[.bool true,goInt pos,.int .i32 (kz s pos).1]) (w':={ w with heap:=w.heap.setIfInBounds p.block (.stringIter bs (pos+(kz s pos).2)) }) ?_ (hn _ _ g0 _ _ hK s2 ?_ s3)
     ·have bq:(Instr.next (.pointer (some ⟨p.block,0,none⟩)) true ty).run P w=.ok (.tuple #[.bool true,goInt pos,.int .i32 (kz s pos).1]) { w with heap:=w.heap.setIfInBounds p.block (.stringIter bs (pos+(kz s pos).2)) }:=by
       simp only [Instr.next,Sem.run_bind,NY i3,Result.andThen_ok,ia,eF,if_true,Od,s1,Sem.run_pure]
      simp only [execOp,qZ,bq,Sem.run_bind,Result.andThen,Sem.run_pure]
     rw [aa];refine ⟨_,rfl,?_⟩;simp only [av];refine ⟨_,_,rfl,by rw [aa],_,_,rfl,by rw [aa];exact ⟨rfl,vL (by omega)⟩,_,_,rfl,?_,rfl⟩;rw [aa];refine ⟨rfl,?_⟩;have:=decode_le bs pos;rw [Od] at this;constructor<;>simp [IntKind.min,IntKind.max,IntKind.signed,IntKind.bits]<;>omega
    have hK:=zG (by omega);refine dV (u:=.tuple #[.bool false]) (w':=w) ?_ (hn _ _ g0 _ _ hK hc.cw ?_ (Step.refl _ _ _ _))
    ·have bq:(Instr.next (.pointer (some ⟨p.block,0,none⟩)) true ty).run P w=.ok (.tuple #[.bool false]) w:=by
      simp only [Instr.next,Sem.run_bind,NY i3,Result.andThen_ok,ia,eF,if_false,Sem.run_pure]
     simp only [execOp,qZ,bq,Sem.run_bind,Result.andThen,Sem.run_pure]
    rw [aa];refine ⟨_,rfl,?_⟩;simp only [av];exact ⟨_,_,rfl,by rw [aa],rfl⟩
  | false=>
    simp only [cz] at hq;split at hq<;>try contradiction
    rename_i it hx;obtain ⟨m,cl,seen,es,bs,cn,yh,zG,qe⟩:=hq;have gb:=hc.aM ck hx;rw [aa] at gb;obtain ⟨p,hp,qZ⟩:=gb;obtain ⟨p',pm,sa,i1,i2,i3,i4,i5⟩:=hc.cw.obj it _ cn;obtain ⟨Vu,ai,m1,m2,m3,m4,m5,m6,m7⟩:=hc.cw.obj m _ yh;simp only at hp i1 i2 i3 i4 m1 m2 m3;rw [hp] at i1;cases i1
    rw [i4] at m1;cases m1
    rcases run_next_any (P:=P) (w:=w) ty p.block pm.block cl sa ai i3 m3 m5 with ⟨h0,bq⟩|⟨e,he,w1,ji,bq⟩
    ·refine dV (u:=.tuple #[.bool false]) (w':=w) ?_ (hn _ _ g0 _ _ (zG ?_) hc.cw ?_ (Step.refl _ _ _ _))
     ·simp only [execOp,qZ,bq,Sem.run_bind,Result.andThen,Sem.run_pure]
     ·intro b hb;rw [<- m7] at hb;obtain ⟨e,he,rfl⟩:=List.mem_map.1 hb;rw [<- i5];cases Oe:sa.contains e.born with
      | true=>simpa using Oe
      | false=>
        have:e∈(leftOf ai sa).toList:=by unfold leftOf;rw [Array.mem_toList_iff,Array.mem_filter];exact ⟨Array.mem_toList_iff.1 he,by rw [Oe];rfl⟩
        rw [show leftOf ai sa=#[] by simpa using h0] at this;simp at this
     rw [aa];exact ⟨#[.bool false],rfl,by simp [av,aa]⟩
    obtain ⟨Vv,nD⟩:=mem_left he;obtain ⟨i,hi⟩:=List.getElem?_of_mem Vv;have vY:bs[i]?=some e.born:=by rw [<- m7,List.getElem?_map,hi];rfl
    have aL:i<es.length:=by rw [eC.len m4];exact (List.getElem?_eq_some_iff.1 hi).1
    obtain ⟨x0,kF⟩:∃ x0,es[i]?=some x0:=⟨_,List.getElem?_eq_getElem aL⟩;obtain ⟨e',q1,q2,q3⟩:=eC.get m4 kF;rw [hi] at q1;cases q1
    obtain ⟨h',hu,hK⟩:=qe i e.born x0 vY kF (by rw [<- i5];intro hm;have:sa.contains e.born=true:=(by simpa using hm);rw [nD] at this;cases this);obtain ⟨l1,l2,rfl,rfl⟩:=cH.split hu;obtain ⟨s1,s2⟩:=Vf (yf:=sa.push e.born) (BR:=seen++[e.born]) hc.cw ji hp i2 i3 i4 (by simp [i5]);refine dV (u:=.tuple #[.bool true,e.key,e.val]) (w':={ w1 with heap:=w1.heap.setIfInBounds p.block (.mapIter (some pm.block) cl (sa.push e.born) cl) }) ?_ (hn _ _ g0 _ _ hK s1 ?_ s2)
    ·simp only [execOp,qZ,bq,Sem.run_bind,Result.andThen,Sem.run_pure]
    rw [aa];refine ⟨_,rfl,?_⟩;simp only [av];exact ⟨_,_,rfl,by simp [aa],_,_,rfl,aa.mono (Step.le s2) _ _ q2,_,_,rfl,aa.mono (Step.le s2) _ _ q3,rfl⟩
 case entry x=>
  simp only [cz] at hq;split at hq<;>try contradiction
  rename_i it hx;obtain ⟨m,cl,seen,es,bs,cn,yh,i,b,x0,s0,rfl,vY,kF,hK⟩:=hq;have gb:=hc.aM ck hx;rw [aa] at gb;obtain ⟨p,hp,qZ⟩:=gb;obtain ⟨p',pm,sa,i1,i2,i3,i4,i5⟩:=hc.cw.obj it _ cn;obtain ⟨Vu,ai,m1,m2,m3,m4,m5,m6,m7⟩:=hc.cw.obj m _ yh;simp only at hp i1 i2 i3 i4 m1 m2 m3;rw [hp] at i1;cases i1
  rw [i4] at m1;cases m1
  obtain ⟨e,q1,q2,q3⟩:=eC.get m4 kF;have uO:e.born=b:=by rw [<- m7,List.getElem?_map,q1] at vY;simpa using vY
  have Vw:sa.back?=some e.born:=by rw [uO,<- Array.getLast?_toList,i5];simp
  have bq:=Vh (P:=P) (w:=w) p.block pm.block cl cl sa ai e i3 m3 Vw (List.mem_of_getElem? q1) m6;refine dV (u:=.tuple #[e.key,e.val]) (w':=w) ?_ (hn _ _ g0 _ _ hK hc.cw ?_ (Step.refl _ _ _ _))
  ·simp only [execOp,qZ,bq,Sem.run_bind,Result.andThen,Sem.run_pure]
  rw [aa];refine ⟨_,rfl,?_⟩;simp only [av];exact ⟨_,_,rfl,q2,_,_,rfl,q3,rfl⟩
 case makeSlice t x y=>
  simp only [cz] at hq;cases bl:P.underlying t with
  | none=>simp [bl] at hq
  | some d=>
  cases d<;>try (simp [bl] at hq;done)
  rename_i e;simp only [bl] at hq;cases hx:aM r [] x with
  | none=>simp [hx] at hq
  | some vx=>
  have gb:=hc.aM ck hx;cases vx<;>try (simp [hx] at hq;done)
  rename_i kx m;simp only [hx] at hq;cases hy:aM r [] y with
  | none=>simp [hy] at hq
  | some vy=>
  have Bb:=hc.aM ck hy;cases vy<;>try (simp [hy] at hq;done)
  rename_i ky m';simp only [hy] at hq;cases hz:iF P e with
  | none=>simp [hz] at hq
  | some z=>
  simp only [hz] at hq;split at hq<;>try contradiction
  rename_i q1;split at hq<;>try contradiction
  rename_i q2;split at hq<;>try contradiction
  rename_i q3;have q1:=Nat.eq_of_beq_eq_true q1;have q2:=Nat.le_of_ble_eq_true q2;have q3:=Nat.le_of_ble_eq_true q3;obtain ⟨⟨rfl,q4,q5⟩,hK⟩:=hq;obtain ⟨i,zv,hi,fC,eN,ga⟩:=mZ (c:=⟨g0,live X h,w⟩) hz;have fF:i.size=P.cellsOf e:=(by simp [Program.cellsOf,hi]);have wk:i.bytes=P.bytesOf e:=(by simp [Program.bytesOf,hi]);have ib:zv.cells.size=z.length:=by have:=eN.length;simpa using this
  rw [aa] at gb Bb;obtain ⟨m,rfl⟩:=Int.eq_ofNat_of_zero_le q4;have Vx:(i.bytes:Int)*(m:Int)<=281474976710656:=by have h1:i.bytes*m<=4096*4294967296:=Nat.mul_le_mul (by omega) (by omega);have h2:((i.bytes*m:Nat):Int)<=281474976710656:=(by omega);rwa [Int.natCast_mul] at h2
  have bq:=run_make (P:=P) w t e i zv bl hi fC kx ky (m:Int) (m:Int) q4 (Int.le_refl _) Vx (by omega);simp only [Int.toNat_natCast] at bq hK;have Of:(madeCells zv.cells (m*i.size)).toList=(List.replicate m zv.cells.toList).flatten:=by rw [fF,<- q1,<- ib];exact ED zv.cells (by omega) m
  have cG:=av.EE eN m;rw [<- Of] at cG
  obtain ⟨k,g',k1,k2,k3⟩:=hc.cw.BQ e cG (by
   intro u hu;have:u∈(List.replicate m zv.cells.toList).flatten:=by rw [<- Of];simpa using hu
   simp only [List.mem_flatten,List.mem_replicate] at this;obtain ⟨l,⟨_,rfl⟩,hu⟩:=this;exact ga u (by simpa using hu))
  refine dV (w':=w.alloc (.cells (madeCells zv.cells (m*i.size)) e)) (u:=.slice (some ⟨w.heap.size,0,none⟩) m m) ?_ (hn _ _ g' _ _ (hK k) k2 ?_ k3)
  ·simp only [execOp,gb.1,Bb.1,bq,Sem.run_bind,Result.andThen,Sem.run_pure]
  rw [aa];refine ⟨_,m,0,k1,rfl,rfl,Nat.le_refl _,by unfold aq;omega,by omega,?_,fun _=>rfl,by unfold oI;omega⟩;refine ⟨_,_,_,heap_alloc_new w _,?_⟩;simp [size_madeCells,fF,q1]
 case buildSlice t m parts=>
  simp only [cz] at hq;cases bl:P.underlying t with
  | none=>simp [bl] at hq
  | some d=>
  cases d<;>try (simp [bl] at hq;done)
  rename_i e;simp only [bl] at hq;cases hl:hZ r [] (P.cellsOf e) 0 parts.toList with
  | none=>simp [hl] at hq
  | some l=>
  simp only [hl] at hq;split at hq<;>try contradiction
  rename_i q1;split at hq<;>try contradiction
  rename_i q2;split at hq<;>try contradiction
  rename_i q3;cases hz:iF P e with
  | none=>simp [hz] at hq
  | some z=>
  simp only [hz] at hq;split at hq<;>try contradiction
  rename_i q4;have q1:=Nat.eq_of_beq_eq_true q1;have q2:=Nat.le_of_ble_eq_true q2;have q3:=Nat.le_of_ble_eq_true q3;have q4:=Nat.eq_of_beq_eq_true q4;obtain ⟨ie,zv,bO,fC,eN,uk⟩:=mZ (c:=⟨g0,live X h,w⟩) hz;have ia:ie.size=P.cellsOf e:=(by simp [Program.cellsOf,bO]);have ib:zv.cells.size=P.cellsOf e:=by have:=eN.length;simp at this;omega
  have Ba:∀ u∈(Array.range (m*P.cellsOf e)).map (zv.cells[· % zv.cells.size]!),u.oneCell'=true:=by intro u hu;obtain ⟨j,hj,rfl⟩:=Array.mem_map.1 hu;have aL:j % zv.cells.size<zv.cells.size:=Nat.mod_lt _ (by omega);rw [getElem!_pos zv.cells _ aL];exact uk _ (Array.getElem_mem _)
  by_cases hm:m=0
  ·subst hm;have ep:l=[]:=List.eq_nil_of_length_eq_zero q1;subst ep
   have pU:parts.toList=[]:=by
    cases hh:parts.toList with
    | nil=>rfl
    | cons q qs=>
      rw [hh] at hl;obtain ⟨i0,x0⟩:=q;unfold hZ at hl
      (repeat' split at hl)<;>simp_all
   have gU:parts=#[]:=(by simpa using pU);obtain ⟨c1,c2⟩:=hc.cw.alloc (.cells #[] e);obtain ⟨q,c3,c4⟩:=c1.EC;refine dV (u:=.slice (some ⟨w.heap.size,0,none⟩) 0 0) (w':=w.alloc (.cells #[] e)) ?_ (hn _ _ g0 _ _ (hq q) c3 ?_ (c2.trans hc.cw.own c4))
   ·have e0:(Array.map (fun _=>(default:Value)) (Array.range 0))=#[]:=(by simp [Array.range]);simp [execOp,Instr.buildSlice,cC bl,oQ bO,gU,Instr.fill,newRow,e0]
   simp only [aa];exact ⟨_,0,rfl,by simp,by simp,by omega,by simp,by simp,by simp [cm],fun _ _=>.inl rfl⟩
  obtain ⟨res,us,e1,e2,e3,e4,e5,e6,e7⟩:=DJ hc ck hl ((Array.range (m*P.cellsOf e)).map (zv.cells[· % zv.cells.size]!))
   (by
     have:∀ (ps:List (Nat × Operand)) (k:Nat) (l:List (List AV)),hZ r [] (P.cellsOf e) k ps=some l->l.length=ps.length:=by
      intro ps;induction ps with
      | nil=>intro k l hh;simp [hZ] at hh;subst hh;rfl
      | cons q qs ih=>
        intro k l hh;obtain ⟨i0,x0⟩:=q;unfold hZ at hh;split at hh<;>try contradiction
        split at hh<;>try contradiction
        split at hh<;>try contradiction
        split at hh<;>try contradiction
        split at hh<;>try contradiction
        rename_i l' hr;cases hh
        simp [ih _ _ hr]
     have:=this _ _ _ hl;rw [Nat.zero_add,<- this,q1];simp) Ba
  have jb:parts.toList.length=m:=(by omega);have Mf:0<m*P.cellsOf e:=Nat.mul_pos (by omega) (by omega);have vM:res.toList=us:=by rw [e6];simp only [Nat.zero_mul,List.take_zero,List.nil_append,Nat.zero_add,jb];rw [List.drop_of_length_le (by simp)];simp
  have bq:=run_buildSlice (P:=P) w t e m (parts.map fun (i,x)=>(i,a.eval x)) res ie zv bl bO fC (by rw [ia];omega) (by rw [ia];omega)
   (by rw [ia];simpa using e1)
  obtain ⟨c1,c2⟩:=hc.cw.alloc (.cells res e);obtain ⟨q,c3,c4⟩:=c1.EC;refine dV (u:=.slice (some ⟨w.heap.size,0,none⟩) m m) (w':=w.alloc (.cells res e)) ?_ (hn _ _ g0 _ _ (hq q) c3 ?_ (c2.trans hc.cw.own c4))
  ·simp [execOp,bq]
  have bR:=bz.new (t:=e) (us:=res) hc.cw (by rw [vM];exact e4) e7;simp only [aa];have Mg:m<=65536:=Nat.le_trans (Nat.le_mul_of_pos_right m (by omega)) q3;refine ⟨_,m,by rw [q1],by omega,by rw [q1];unfold aq;omega,by omega,by simp,by simp,?_,fun _ _=>.inl (by rw [q1])⟩;intro ad ha;simp at ha;subst ha;exact cm.mono (Step.le c4) _ _ _ _ (cm.flat e3 bR)
 case call cl=>
  unfold cz at hq;simp only at hq;split at hq
  ·rename_i f cM;cases hl:bU r [] cl.args.toList with
   | none=>simp [hl] at hq
   | some l=>
   simp only [hl] at hq
   have bq:(execOp a.eval ⟨dst,.call cl,ty,pos,gw,gd⟩).run P w=(callFunc f (cl.args.map a.eval++#[])).run P w:=
    DK rfl ⟨_,cM,rfl⟩
   exact DI (us:=cl.args.map a.eval) hq hc.cw (by simpa using hc.bU ck hl) (by simpa using bq) hn
  ·rename_i t cM;cases hx:aM r [] (.tmp t) with
   | none=>simp [hx] at hq
   | some x=>
   cases x<;>try (simp [hx] at hq;done)
   rename_i f bB;simp only [hx] at hq;cases hl:bU r [] cl.args.toList with
   | none=>simp [hl] at hq
   | some l=>
   simp only [hl] at hq;have hr:=hc.aM ck hx;rw [aa] at hr;obtain ⟨us,xv,ba⟩:=hr
   have bq:(execOp a.eval ⟨dst,.call cl,ty,pos,gw,gd⟩).run P w=(callFunc f (cl.args.map a.eval++us)).run P w:=
    DK rfl ⟨_,cM,xv⟩
   exact DI hq hc.cw (by simpa using av.append (hc.bU ck hl) ba) bq hn
  ·rename_i cM;split at hq<;>try contradiction
   rename_i t tx cR;split at hq<;>try contradiction
   rename_i e bl eK;split at hq<;>try contradiction
   rename_i cL;split at hq<;>try contradiction
   rename_i jI;split at hq<;>try contradiction
   rename_i z hz;split at hq<;>try contradiction
   rename_i ib;have cL:=Nat.le_of_ble_eq_true cL;have jI:=Nat.le_of_ble_eq_true jI;have ib:=Nat.eq_of_beq_eq_true ib;split at hq<;>try contradiction
   ·rename_i b2 o2 n2 k2 hl;split at hq<;>try contradiction
    rename_i bo;have bo:=Nat.eq_of_beq_eq_true bo;obtain ⟨eo,ys,cn,⟨bR,lN,gp⟩,⟨eF,dL⟩,hK⟩:=hq;have bY:=hc.bU ck hl;simp only [av] at bY;obtain ⟨u,rr,e1,h1,u2,pn,e2,h2,h3⟩:=bY;subst e2 h3;rw [aa] at h1;subst h1;have bq:=tL (P:=P) (a:=a) (w:=w) (o:=⟨dst,.call cl,ty,pos,gw,gd⟩) (b:=#[]) rfl cM cR e1;obtain ⟨i,zv,hi,fC,eN,ga⟩:=mZ (c:=⟨g0,live X h,w⟩) hz;have fF:i.size=P.cellsOf e:=(by simp [Program.cellsOf,hi]);have wk:i.bytes=P.bytesOf e:=(by simp [Program.bytesOf,hi]);have lM:zv.cells.size=P.cellsOf e:=by have:=eN.length;simp at this;omega
    obtain ⟨news,n1,Vy,n3,n4,n5⟩:=yg (P:=P) hc.cw cn h2 bR lN gp;have fR:news.length=ys.length*k2:=by rw [n3.length,kZ n4]
    have lF:=yd (P:=P) (w:=w) (ty:=ty) (i:=i) (z:=zv) (m:=ys.length) (gB:=0) (mh:=0) (base:=none) (di:=[]) bl eK hi fC n1 (by rw [fF,<- bo];exact Vy w.drew rfl)
     (by simp [Builtin.firstCells]) (by omega) (by omega) (by omega)
    refine dV (bq _ _ lF) ?_;obtain ⟨c1,s1⟩:=hc.cw.drew;have tK:=grownCap_ge w (0+ys.length) 0 e;have sn:=grownCap_le_maxLen w (0+ys.length) 0 e (by unfold maxLen;unfold aV at dL;omega)
    obtain ⟨b',g',k1,Vz,k3⟩:=c1.zC (l:=ys.flatten) (us:=[]++news) (Z:=Builtin.zeroCells zv.cells (grownCap w (0+ys.length) 0 e - (0+ys.length))) e
     (av.mono (Step.le s1) _ _ (by simpa using n3)) (by simpa using n5)
    refine hn _ _ g' _ _ (hK b') Vz ?_ (s1.trans hc.cw.own k3);rw [aa];refine ⟨_,grownCap w (0+ys.length) 0 e,0,k1,rfl,by rw [Nat.zero_add,gp];rfl,by omega,by unfold aq;unfold aV at dL;omega,by omega,?_,fun _=>rfl,by unfold oI;unfold maxLen at sn;omega⟩;refine ⟨_,_,_,heap_alloc_new w.drew _,?_⟩;simp only [Array.size_append,List.size_toArray,size_zeroCells,lM,List.length_append,fR,List.length_nil];have e3:ys.length*k2+(grownCap w (0+ys.length) 0 e - (0+ys.length))*k2=grownCap w (0+ys.length) 0 e*k2:=by rw [<- Nat.add_mul];congr 1;omega
    rw [bo] at e3 ⊢;simp only [Nat.zero_add] at e3 ⊢;omega
   ·rename_i b off n' c k b2 o2 n2 k2 hl;split at hq<;>try contradiction
    rename_i hk bo;have hk:=Nat.eq_of_beq_eq_true hk;have bo:=Nat.eq_of_beq_eq_true bo;subst bo;obtain ⟨eo,ys,VA,⟨Bw,lN,gp⟩,dL,cs,cn,hq⟩:=hq;have bY:=hc.bU ck hl;simp only [av] at bY;obtain ⟨u,rr,e1,h1,u2,pn,e2,h2,h3⟩:=bY;subst e2 h3;have bq:=tL (P:=P) (a:=a) (w:=w) (o:=⟨dst,.call cl,ty,pos,gw,gd⟩) (b:=#[]) rfl cM cR e1;have tJ:=yg (P:=P) hc.cw VA h2 Bw lN gp;subst gp;rcases hq with ⟨jB,bR,h',hu,hK⟩|⟨hg,bR,hK⟩
    ·obtain ⟨l1,l2,rfl,rfl⟩:=cH.split hu;exact Vl hc.cw bl eK cL hk bR dL jB tJ h1 bq hK hn
    exact NV hc.cw cn bl eK cL jI hz ib hk bR dL hg tJ h1 bq hK hn
   ·rename_i y hl;split at hq<;>try contradiction
    rename_i ys kf;obtain ⟨dL,hK⟩:=hq;have bY:=hc.bU ck hl;simp only [av] at bY;obtain ⟨u,rr,e1,h1,u2,pn,e2,h2,h3⟩:=bY;subst e2 h3;rw [aa] at h1;subst h1;have bq:=tL (P:=P) (a:=a) (w:=w) (o:=⟨dst,.call cl,ty,pos,gw,gd⟩) (b:=#[]) rfl cM cR e1;obtain ⟨i,zv,hi,fC,eN,ga⟩:=mZ (c:=⟨g0,live X h,w⟩) hz;have fF:i.size=P.cellsOf e:=(by simp [Program.cellsOf,hi]);have wk:i.bytes=P.bytesOf e:=(by simp [Program.bytesOf,hi]);have lM:zv.cells.size=P.cellsOf e:=by have:=eN.length;simp at this;omega
    obtain ⟨news,n1,n2,n3,n4,n5⟩:=wj (c:=⟨g0,live X h,w⟩) kf h2;have fR:news.length=ys.length*P.cellsOf e:=(by rw [n3.length,kZ n4]);by_cases hm:ys=[]
    ·subst hm;have fy:news=[]:=List.eq_nil_of_length_eq_zero (by rw [fR];simp);subst fy;obtain ⟨q,c1,c2⟩:=hc.cw.EC;refine dV (w':=w) (bq _ _ (zA (w':=w) (m:=0) (i:=i) bl eK hi (by simpa using n1) (by simpa [fF] using n2 w rfl) (by omega) (by simp) (fun _=>rfl))) ?_;refine hn _ _ g0 _ w (hK q) c1 ?_ c2;simp only [aa];exact ⟨none,0,by simp,by simp,by simp,by omega,by simp,by simp,by simp,fun _ _=>.inl rfl⟩
    have eF:0<ys.length:=List.length_pos_iff.2 hm
    have lF:=yd (P:=P) (w:=w) (ty:=ty) (i:=i) (z:=zv) (m:=ys.length) (gB:=0) (mh:=0) (base:=none) (di:=[]) bl eK hi fC n1 (by rw [fF];exact n2 w.drew rfl)
     (by simp [Builtin.firstCells]) (by omega) (by omega) (by omega)
    refine dV (bq _ _ lF) ?_
    have gH:=NQ (xs:=ys) (us:=news) (k:=P.cellsOf e) (e:=e)
     (cap:=grownCap w (0+ys.length) 0 e) (Z:=Builtin.zeroCells zv.cells (grownCap w (0+ys.length) 0 e - (0+ys.length)))
     hc.cw n3 n4 n5 (by omega) dL (by have:=grownCap_ge w (0+ys.length) 0 e;omega) ?_ hK hn
    ·simpa using gH
    have:=grownCap_ge w (0+ys.length) 0 e;rw [size_zeroCells,lM,fR,<- Nat.add_mul];congr 1;omega
   ·rename_i y hl;split at hq<;>try contradiction
    rename_i ys kf;obtain ⟨⟨eF,dL⟩,hK⟩:=hq;have bY:=hc.bU ck hl;simp only [av] at bY;obtain ⟨u,rr,e1,h1,u2,pn,e2,h2,h3⟩:=bY;subst e2 h3;rw [aa] at h1;subst h1;have bq:=tL (P:=P) (a:=a) (w:=w) (o:=⟨dst,.call cl,ty,pos,gw,gd⟩) (b:=#[]) rfl cM cR e1;obtain ⟨i,zv,hi,fC,eN,ga⟩:=mZ (c:=⟨g0,live X h,w⟩) hz;have fF:i.size=P.cellsOf e:=(by simp [Program.cellsOf,hi]);have wk:i.bytes=P.bytesOf e:=(by simp [Program.bytesOf,hi]);have lM:zv.cells.size=P.cellsOf e:=by have:=eN.length;simp at this;omega
    obtain ⟨news,n1,n2,n3,n4,n5⟩:=wj (c:=⟨g0,live X h,w⟩) kf h2;have fR:news.length=ys.length*P.cellsOf e:=by rw [n3.length,kZ n4]
    have lF:=yd (P:=P) (w:=w) (ty:=ty) (i:=i) (z:=zv) (m:=ys.length) (gB:=0) (mh:=0) (base:=none) (di:=[]) bl eK hi fC n1 (by rw [fF];exact n2 w.drew rfl)
     (by simp [Builtin.firstCells]) (by omega) (by omega) (by omega)
    refine dV (bq _ _ lF) ?_;obtain ⟨c1,s1⟩:=hc.cw.drew;have tK:=grownCap_ge w (0+ys.length) 0 e
    obtain ⟨b',g',k1,k2,k3⟩:=c1.zC (l:=ys.flatten) (us:=[]++news) (Z:=Builtin.zeroCells zv.cells (grownCap w (0+ys.length) 0 e - (0+ys.length))) e
     (av.mono (Step.le s1) _ _ (by simpa using n3)) (by simpa using n5)
    refine hn _ _ g' _ _ (hK b') k2 ?_ (s1.trans hc.cw.own k3);rw [aa];have sn:=grownCap_le_maxLen w (0+ys.length) 0 e (by unfold maxLen;unfold aV at dL;omega);refine ⟨_,grownCap w (0+ys.length) 0 e,0,k1,rfl,by rw [Nat.zero_add];rfl,by omega,by unfold aq;unfold aV at dL;omega,cL,?_,fun _=>rfl,by unfold oI;unfold maxLen at sn;omega⟩;refine ⟨_,_,_,heap_alloc_new w.drew _,?_⟩;simp only [Array.size_append,List.size_toArray,size_zeroCells,lM,List.length_append,fR,List.length_nil];have e3:ys.length*P.cellsOf e+(grownCap w (0+ys.length) 0 e - (0+ys.length))*P.cellsOf e=grownCap w (0+ys.length) 0 e*P.cellsOf e:=by rw [<- Nat.add_mul];congr 1;omega
    simp only [Nat.zero_add] at e3 ⊢;omega
   ·rename_i b n' k y hl;split at hq<;>try contradiction
    rename_i hk;have hk:=Nat.eq_of_beq_eq_true hk;split at hq<;>try contradiction
    rename_i ys kf;obtain ⟨cs,cn,⟨bR,dL⟩,hK⟩:=hq;have bY:=hc.bU ck hl;simp only [av] at bY;obtain ⟨u,rr,e1,h1,u2,pn,e2,h2,h3⟩:=bY;subst e2 h3;have bq:=tL (P:=P) (a:=a) (w:=w) (o:=⟨dst,.call cl,ty,pos,gw,gd⟩) (b:=#[]) rfl cM cR e1;obtain ⟨l1,l2,rfl⟩:=List.append_of_mem cn;refine Vi hc.cw bl eK cL jI hz ib hk kf bR dL h1 h2 bq (fun b'=>?_) hn;obtain ⟨h',hu,hK⟩:=hK b';obtain ⟨m1,m2,e1,rfl⟩:=cH.split hu;obtain ⟨rfl,rfl⟩:=Iq hc.cw.nodup e1;exact hK
   ·rename_i k q xs b2 o2 n2 k2 hl;split at hq<;>try contradiction
    rename_i hk bo;have hk:=Nat.eq_of_beq_eq_true hk;have bo:=Nat.eq_of_beq_eq_true bo;subst bo;obtain ⟨cs,ys,cn,⟨bR,lN,gp⟩,dL,hK⟩:=hq;have bY:=hc.bU ck hl;simp only [av] at bY;obtain ⟨u,rr,e1,h1,u2,pn,e2,h2,h3⟩:=bY;subst e2 h3;have bq:=tL (P:=P) (a:=a) (w:=w) (o:=⟨dst,.call cl,ty,pos,gw,gd⟩) (b:=#[]) rfl cM cR e1;obtain ⟨h',hu,_⟩:=hK 0;have tJ:=yg (P:=P) hc.cw cn h2 bR lN gp;obtain ⟨l1,l2,rfl,_⟩:=cH.split hu;exact NS hc.cw bl eK cL jI hz ib hk tJ dL h1 bq hK hn
   ·rename_i k q xs y hl;split at hq<;>try contradiction
    rename_i hk;have hk:=Nat.eq_of_beq_eq_true hk;split at hq<;>try contradiction
    rename_i ys kf;obtain ⟨dL,hK⟩:=hq;have bY:=hc.bU ck hl;simp only [av] at bY;obtain ⟨u,rr,e1,h1,u2,pn,e2,h2,h3⟩:=bY;subst e2 h3;have bq:=tL (P:=P) (a:=a) (w:=w) (o:=⟨dst,.call cl,ty,pos,gw,gd⟩) (b:=#[]) rfl cM cR e1;obtain ⟨h',hu,_⟩:=hK 0;obtain ⟨l1,l2,rfl,_⟩:=cH.split hu;exact Vd hc.cw bl eK cL jI hz ib hk kf dL h1 h2 bq hK hn
   rename_i e bl eK;split at hq<;>try contradiction
   rename_i kn VB;split at hq<;>try contradiction
   rename_i cL;split at hq<;>try contradiction
   rename_i jI;split at hq<;>try contradiction
   rename_i z hz;split at hq<;>try contradiction
   rename_i ib;split at hq<;>try contradiction
   rename_i b off n' c k kq m hl;split at hq<;>try contradiction
   rename_i hk;have cL:=Nat.le_of_ble_eq_true cL;have jI:=Nat.le_of_ble_eq_true jI;have ib:=Nat.eq_of_beq_eq_true ib;have hk:=Nat.eq_of_beq_eq_true hk;obtain ⟨cs,cn,⟨mI,hg,dL,bR⟩,hK⟩:=hq;have bY:=hc.bU ck hl;simp only [av] at bY;obtain ⟨u,rr,e1,h1,u2,pn,e2,h2,h3⟩:=bY;subst e2 h3;rw [aa] at h2;obtain ⟨rfl,_⟩:=h2;have bq:=tL (P:=P) (a:=a) (w:=w) (o:=⟨dst,.call cl,ty,pos,gw,gd⟩) (b:=#[]) rfl cM cR e1;obtain ⟨m,rfl⟩:=Int.eq_ofNat_of_zero_le (Int.le_of_lt mI);exact Vm hc.cw cn bl VB cL jI hz ib hk bR (by omega) (by omega) (by omega) h1 bq hK hn
  ·rename_i cM;split at hq<;>try contradiction
   rename_i t tx cR;split at hq<;>try contradiction
   rename_i e bl;split at hq<;>try contradiction
   ·rename_i b o m k b2 o2 n2 k2 hl;split at hq<;>try contradiction
    rename_i hk bo cL;have hk:=Nat.eq_of_beq_eq_true hk;have bo:=Nat.eq_of_beq_eq_true bo;have cL:=Nat.le_of_ble_eq_true cL;subst bo;obtain ⟨eo,ys,cn,⟨bR,lN,gp⟩,cs,h',hu,⟨eF,hle⟩,hK⟩:=hq;have bY:=hc.bU ck hl;simp only [av] at bY;obtain ⟨u,rr,e1,h1,u2,pn,e2,h2,h3⟩:=bY;subst e2 h3;have tA:∃ qY,aa ⟨g0,live X h,w⟩ (.aR b2 o2 (min n2 m) k2) qY/\(∀ w',(Builtin.lenOf u2).run P w'=.ok n2 w')/\(∀ c j,Builtin.firstCells c j u2=Builtin.firstCells c j qY):=by rw [aa] at h2;obtain ⟨p,cap,o',x1,x2,rfl,x3,x4,x5,x6,x7,x8⟩:=h2;refine ⟨.slice (some ⟨p.block,p.off+o',none⟩) (min n2 m) cap,?_,fun w'=>by simp [Builtin.lenOf],fun c j=>rfl⟩;rw [aa];exact ⟨p,cap,o',x1,x2,rfl,by omega,by omega,x5,x6,x7,x8⟩
    obtain ⟨qY,r1,r2,r3⟩:=tA;obtain ⟨news,n1,n3,n4,n5,n6⟩:=yg (P:=P) hc.cw cn r1 bR lN gp;exact Iy hc bl hk cL hu h1 cM cR e1 hle (by omega) (by rw [gp];exact hK) hn (n:=n2) gp r2 (fun w' hw=>by rw [r3,<- hk];exact n3 w' hw) n4 n6
   ·rename_i b o m k b2 o2 n2 c2 k2 hl;split at hq<;>try contradiction
    rename_i hk bo cL;have hk:=Nat.eq_of_beq_eq_true hk;have bo:=Nat.eq_of_beq_eq_true bo;have cL:=Nat.le_of_ble_eq_true cL;subst bo;obtain ⟨eo,ys,cn,⟨bR,lN,gp⟩,cs,h',hu,⟨eF,hle⟩,hK⟩:=hq;have bY:=hc.bU ck hl;simp only [av] at bY;obtain ⟨u,rr,e1,h1,u2,pn,e2,h2,h3⟩:=bY;subst e2 h3;obtain ⟨r2,qY,r1,r3⟩:=NZ (P:=P) (m:=m) h2;obtain ⟨news,n1,n3,n4,n5,n6⟩:=yg (P:=P) hc.cw cn r1 bR lN gp;exact Iy hc bl hk cL hu h1 cM cR e1 hle (by omega) (by rw [gp];exact hK) hn (n:=n2) gp r2 (fun w' hw=>by rw [r3,<- hk];exact n3 w' hw) n4 n6
   ·rename_i b o m c k b2 o2 n2 c2 k2 hl;split at hq<;>try contradiction
    rename_i hk bo cL;have hk:=Nat.eq_of_beq_eq_true hk;have bo:=Nat.eq_of_beq_eq_true bo;have cL:=Nat.le_of_ble_eq_true cL;subst bo;obtain ⟨eo,ys,cn,⟨bR,lN,gp⟩,cs,h',hu,⟨eF,hle⟩,hK⟩:=hq;have bY:=hc.bU ck hl;simp only [av] at bY;obtain ⟨u,rr,e1,h1,u2,pn,e2,h2,h3⟩:=bY;subst e2 h3;obtain ⟨r2,qY,r1,r3⟩:=NZ (P:=P) (m:=m) h2;obtain ⟨news,n1,n3,n4,n5,n6⟩:=yg (P:=P) hc.cw cn r1 bR lN gp;exact Oa hc bl hk cL hu h1 cM cR e1 hle (by rw [kZ lN];exact Nat.mul_le_mul_right _ (by omega)) (by rw [gp];exact hK) hn (n:=n2) gp r2 (fun w' hw=>by rw [r3,<- hk];exact n3 w' hw) n4 n6
   ·rename_i b o m c k b2 o2 n2 k2 hl;split at hq<;>try contradiction
    rename_i hk bo cL;have hk:=Nat.eq_of_beq_eq_true hk;have bo:=Nat.eq_of_beq_eq_true bo;have cL:=Nat.le_of_ble_eq_true cL;subst bo;obtain ⟨eo,ys,cn,⟨bR,lN,gp⟩,cs,h',hu,⟨eF,hle⟩,hK⟩:=hq;have bY:=hc.bU ck hl;simp only [av] at bY;obtain ⟨u,rr,e1,h1,u2,pn,e2,h2,h3⟩:=bY;subst e2 h3;obtain ⟨r2,qY,r1,r3⟩:=Vr (P:=P) (m:=m) h2;obtain ⟨news,n1,n3,n4,n5,n6⟩:=yg (P:=P) hc.cw cn r1 bR lN gp;exact Oa hc bl hk cL hu h1 cM cR e1 hle (by rw [kZ lN];exact Nat.mul_le_mul_right _ (by omega)) (by rw [gp];exact hK) hn (n:=n2) gp r2 (fun w' hw=>by rw [r3,<- hk];exact n3 w' hw) n4 n6
   rename_i b o m k y _ _ hl;split at hq<;>try contradiction
   rename_i hk cL;have hk:=Nat.eq_of_beq_eq_true hk;have cL:=Nat.le_of_ble_eq_true cL;split at hq<;>try contradiction
   rename_i ys kf;obtain ⟨cs,h',hu,⟨eF,O6,hle⟩,hK⟩:=hq;have bY:=hc.bU ck hl;simp only [av] at bY;obtain ⟨u,rr,e1,h1,u2,pn,e2,h2,h3⟩:=bY;subst e2 h3;obtain ⟨news,n1,n2,n3,n4,n5⟩:=wj (P:=P) (c:=⟨g0,live X h,w⟩) kf h2;exact Iy hc bl hk cL hu h1 cM cR e1 hle (by omega) hK hn (n:=ys.length) (by omega) n1 (fun w' hw=>by rw [<- hk];exact n2 w' hw) n3 n5
  ·rename_i cM;split at hq<;>try contradiction
   rename_i t cR;split at hq<;>try contradiction
   rename_i e bl;split at hq<;>try contradiction
   rename_i z hz;split at hq<;>try contradiction
   rename_i b o m k hl;split at hq<;>try contradiction
   rename_i IA;have IA:=Nat.eq_of_beq_eq_true IA;obtain ⟨cs,h',hu,⟨eF,hle⟩,hK⟩:=hq;obtain ⟨l1,l2,rfl,rfl⟩:=cH.split hu;have bY:=hc.bU ck hl;simp only [av] at bY;obtain ⟨u,rr,e1,h1,e2⟩:=bY;subst e2;obtain ⟨p,cap,x1,x2,rfl,x3,x4,x5,x6,_⟩:=h1.AM eF;simp only at x1;obtain ⟨i,zv,hi,fC,eN,ga⟩:=mZ (c:=⟨g0,live X (l1++(b,.vec cs)::l2),w⟩) hz;have lM:zv.cells.size=k:=by have:=eN.length;simp at this;omega
   have cG:=av.EE eN m;have Og:(iY m z).length=m*k:=by unfold iY;simp [IA]
   have ke:(List.replicate m zv.cells.toList).flatten.length=m*k:=by simp [lM]
   obtain ⟨q,cc,tt,p1,p2,p3,p4,p5,p6⟩:=EB (o:=o) hc.cw (by omega) cG (by
    intro u hu;simp only [List.mem_flatten,List.mem_replicate] at hu;obtain ⟨l,⟨_,rfl⟩,hu⟩:=hu;exact ga u (by simpa using hu))
   rw [x1] at p1;cases p1
   refine dV (u:=.tuple #[]) (w':=w.setCells p.block (p.off+o) (List.replicate m zv.cells.toList).flatten) ?_ (hn (.aQ []) _ g0 _ _ hK p5 (by rw [aa];exact ⟨#[],rfl,by simp [av]⟩) p6);have h1:cl.args.map a.eval=#[.slice (some ⟨p.block,p.off+o,none⟩) m cap]:=by rw [<- Array.toList_inj];simpa using e1
   have h2:cl.argTypes=#[t]:=by rw [<- Array.toList_inj];simpa using cR
   have aA:=run_storeCells_cells (P:=P) p.block (p.off+o) (List.replicate m zv.cells.toList).flatten 0 w
    (fun j hj=>by
      simp only [Nat.add_zero];rw [cell_of_row w p.block (p.off+o+j) cc tt _ p3];have:p.off+o+j<cc.size:=(by omega);simp [this])
    (fun j hj=>frozen_of_row w p.block _ cc tt p3) (fun v hv=>by
      simp only [List.mem_flatten,List.mem_replicate] at hv;obtain ⟨l,⟨_,rfl⟩,hu⟩:=hv;exact ga v (by simpa using hu))
   simp only [Nat.add_zero] at aA;have Iw:(Builtin.zeroCells zv.cells m).toList=(List.replicate m zv.cells.toList).flatten:=ED zv.cells (by omega) m;obtain ⟨m',rfl⟩:∃ m',m=m'+1:=⟨m - 1,by omega⟩;have VC:(zeroValue e).run P w=.ok zv w:=(by simp [zeroValue,typeInfo,hi,fC]);have bw:(Builtin.clear_ #[t] ty #[.slice (some ⟨p.block,p.off+o,none⟩) (m'+1) cap]).run P w=.ok (.tuple #[]) (w.setCells p.block (p.off+o) (List.replicate (m'+1) zv.cells.toList).flatten):=(by simp only [Builtin.clear_,List.getElem?_toArray,List.getElem?_cons_zero,Sem.run_bind,cC bl,Result.andThen_ok,VC,Iw,aA,Sem.run_pure]);simp [execOp,resolve,cM,invoke,builtin,h1,h2,bw]
  exact hq.elim
 all_goals (simp [cz] at hq)
theorem VD {o:Oper} {cl:Call} {K:AV->ab->Prop} {next:Act->World->Prop} {Q:Exit->Act->World->Prop} (de:o.op=.call cl)
  (hq:ue P r h K cl) (hc:bK n X g0 r h a w) (hn:mH X g0 h w K o.dst a next):o.wp P a w next Q:=by
 have ck:cZ a []:=fun e he=>by cases he
 obtain ⟨dst,op,ty,pos,gw,gd⟩:=o;simp only at de hn;subst de;unfold ue at hq;split at hq<;>try contradiction
 rename_i cM;split at hq<;>try contradiction
 rename_i t tx cR;split at hq<;>try contradiction
 rename_i e bl eK;split at hq<;>try contradiction
 rename_i cL;split at hq<;>try contradiction
 rename_i jI;split at hq<;>try contradiction
 rename_i z hz;split at hq<;>try contradiction
 rename_i ib;have cL:=Nat.le_of_ble_eq_true cL;have jI:=Nat.le_of_ble_eq_true jI;have ib:=Nat.eq_of_beq_eq_true ib;split at hq<;>try contradiction
 ·rename_i y hl;split at hq<;>try contradiction
  rename_i ys kf;obtain ⟨⟨eF,dL⟩,hK⟩:=hq;have bY:=hc.bU ck hl;simp only [av] at bY;obtain ⟨u,rr,e1,h1,u2,pn,e2,h2,h3⟩:=bY;subst e2 h3;rw [aa] at h1;subst h1;have bq:=tL (P:=P) (a:=a) (w:=w) (o:=⟨dst,.call cl,ty,pos,gw,gd⟩) (b:=#[]) rfl cM cR e1;obtain ⟨i,zv,hi,fC,eN,ga⟩:=mZ (c:=⟨g0,live X h,w⟩) hz;have fF:i.size=P.cellsOf e:=(by simp [Program.cellsOf,hi]);have wk:i.bytes=P.bytesOf e:=(by simp [Program.bytesOf,hi]);have lM:zv.cells.size=P.cellsOf e:=by have:=eN.length;simp at this;omega
  obtain ⟨news,n1,n2,n3,n4,n5⟩:=wj (c:=⟨g0,live X h,w⟩) kf h2;have fR:news.length=ys.length*P.cellsOf e:=by rw [n3.length,kZ n4]
  have lF:=yd (P:=P) (w:=w) (ty:=ty) (i:=i) (z:=zv) (m:=ys.length) (gB:=0) (mh:=0) (base:=none) (di:=[]) bl eK hi fC n1 (by rw [fF];exact n2 w.drew rfl)
   (by simp [Builtin.firstCells]) (by omega) (by omega) (by omega)
  refine dV (bq _ _ lF) ?_;obtain ⟨c1,s1⟩:=hc.cw.drew;have tK:=grownCap_ge w (0+ys.length) 0 e
  obtain ⟨b',g',k1,k2,k3⟩:=c1.zC (l:=ys.flatten) (us:=[]++news) (Z:=Builtin.zeroCells zv.cells (grownCap w (0+ys.length) 0 e - (0+ys.length))) e
   (av.mono (Step.le s1) _ _ (by simpa using n3)) (by simpa using n5)
  refine hn _ _ g' _ _ (hK b') k2 ?_ (s1.trans hc.cw.own k3);rw [aa];have sn:=grownCap_le_maxLen w (0+ys.length) 0 e (by unfold maxLen;unfold aV at dL;omega);refine ⟨_,grownCap w (0+ys.length) 0 e,0,k1,rfl,by rw [Nat.zero_add];rfl,by omega,by unfold aq;unfold aV at dL;omega,cL,?_,fun _=>rfl,by unfold oI;unfold maxLen at sn;omega⟩;refine ⟨_,_,_,heap_alloc_new w.drew _,?_⟩;simp only [Array.size_append,List.size_toArray,size_zeroCells,lM,List.length_append,fR,List.length_nil];have e3:ys.length*P.cellsOf e+(grownCap w (0+ys.length) 0 e - (0+ys.length))*P.cellsOf e=grownCap w (0+ys.length) 0 e*P.cellsOf e:=by rw [<- Nat.add_mul];congr 1;omega
  simp only [Nat.zero_add] at e3 ⊢;omega
 rename_i b off k y hl;split at hq<;>try contradiction
 rename_i hk;have hk:=Nat.eq_of_beq_eq_true hk;split at hq<;>try contradiction
 rename_i ys kf;obtain ⟨⟨⟨cs,cn⟩,eF,dL⟩,hK⟩:=hq;have bY:=hc.bU ck hl;simp only [av] at bY;obtain ⟨u,rr,e1,h1,u2,pn,e2,h2,h3⟩:=bY;subst e2 h3;have bq:=tL (P:=P) (a:=a) (w:=w) (o:=⟨dst,.call cl,ty,pos,gw,gd⟩) (b:=#[]) rfl cM cR e1;refine NV hc.cw cn bl eK cL jI hz ib hk (.inl rfl) (by omega) (by omega) (wj (c:=⟨g0,live X h,w⟩) kf h2) h1 bq ?_ hn;intro q;have:=hK q;simpa using this
theorem VE {o:Oper} {t:TypeId} {m:Nat} {parts:Array (Nat × Operand)} {K:AV->ab->Prop} {next:Act->World->Prop} {Q:Exit->Act->World->Prop} (de:o.op=.buildSlice t m parts)
  (hq:uf P r h K t m parts) (hc:bK n X g0 r h a w) (hn:mH X g0 h w K o.dst a next):o.wp P a w next Q:=by
 have ck:cZ a []:=fun e he=>by cases he
 obtain ⟨dst,op,ty,pos,gw,gd⟩:=o;simp only at de hn;subst de;unfold uf at hq;split at hq<;>try contradiction
 rename_i e bl;split at hq<;>try contradiction
 rename_i l hl;split at hq<;>try contradiction
 rename_i q1 q2 q3;split at hq<;>try contradiction
 rename_i z hz;split at hq<;>try contradiction
 rename_i q4;have q1:=Nat.eq_of_beq_eq_true q1;have q2:=Nat.le_of_ble_eq_true q2;have q3:=Nat.le_of_ble_eq_true q3;have q4:=Nat.eq_of_beq_eq_true q4;obtain ⟨ie,zv,bO,fC,eN,uk⟩:=mZ (c:=⟨g0,live X h,w⟩) hz;have ia:ie.size=P.cellsOf e:=(by simp [Program.cellsOf,bO]);have ib:zv.cells.size=P.cellsOf e:=by have:=eN.length;simp at this;omega
 have Ba:∀ u∈(Array.range (m*P.cellsOf e)).map (zv.cells[· % zv.cells.size]!),u.oneCell'=true:=by intro u hu;obtain ⟨j,hj,rfl⟩:=Array.mem_map.1 hu;have aL:j % zv.cells.size<zv.cells.size:=Nat.mod_lt _ (by omega);rw [getElem!_pos zv.cells _ aL];exact uk _ (Array.getElem_mem _)
 by_cases hm:m=0
 ·subst hm;have ep:l=[]:=List.eq_nil_of_length_eq_zero q1;subst ep
  have pU:parts.toList=[]:=by
   cases hh:parts.toList with
   | nil=>rfl
   | cons q qs=>
     rw [hh] at hl;obtain ⟨i0,x0⟩:=q;unfold hZ at hl
     (repeat' split at hl)<;>simp_all
  have gU:parts=#[]:=(by simpa using pU);obtain ⟨k,g',k1,k2,k3⟩:=hc.cw.BQ (l:=[]) (us:=#[]) e (by simp [av]) (by simp);refine dV (u:=.slice (some ⟨w.heap.size,0,none⟩) 0 0) (w':=w.alloc (.cells #[] e)) ?_ (hn _ _ g' _ _ (hq k) k2 ?_ k3)
  ·have e0:(Array.map (fun _=>(default:Value)) (Array.range 0))=#[]:=(by simp [Array.range]);simp [execOp,Instr.buildSlice,cC bl,oQ bO,gU,Instr.fill,newRow,e0]
  rw [aa];exact ⟨_,k1,rfl,rfl,Nat.le_refl _,by unfold aq;omega,by omega,⟨_,_,_,heap_alloc_new w _,by simp⟩,by unfold oI;omega⟩
 replace hq:∀ b,K (.aR b 0 m (P.cellsOf e)) ((b,.vec l.flatten)::h):=by
  cases m with
  | zero=>exact absurd rfl hm
  | succ n=>exact hq
 obtain ⟨res,us,e1,e2,e3,e4,e5,e6,e7⟩:=DJ hc ck hl ((Array.range (m*P.cellsOf e)).map (zv.cells[· % zv.cells.size]!))
  (by
    have:∀ (ps:List (Nat × Operand)) (k:Nat) (l:List (List AV)),hZ r [] (P.cellsOf e) k ps=some l->l.length=ps.length:=by
     intro ps;induction ps with
     | nil=>intro k l hh;simp [hZ] at hh;subst hh;rfl
     | cons q qs ih=>
       intro k l hh;obtain ⟨i0,x0⟩:=q;unfold hZ at hh;split at hh<;>try contradiction
       split at hh<;>try contradiction
       split at hh<;>try contradiction
       split at hh<;>try contradiction
       split at hh<;>try contradiction
       rename_i l' hr;cases hh
       simp [ih _ _ hr]
    have:=this _ _ _ hl;rw [Nat.zero_add,<- this,q1];simp) Ba
 have jb:parts.toList.length=m:=(by omega);have Mf:0<m*P.cellsOf e:=Nat.mul_pos (by omega) (by omega);have vM:res.toList=us:=by rw [e6];simp only [Nat.zero_mul,List.take_zero,List.nil_append,Nat.zero_add,jb];rw [List.drop_of_length_le (by simp)];simp
 have bq:=run_buildSlice (P:=P) w t e m (parts.map fun (i,x)=>(i,a.eval x)) res ie zv bl bO fC (by rw [ia];omega) (by rw [ia];omega)
  (by rw [ia];simpa using e1)
 obtain ⟨k,g',k1,k2,k3⟩:=hc.cw.BQ (l:=l.flatten) (us:=res) e (by rw [vM];exact e4) e7;refine dV (u:=.slice (some ⟨w.heap.size,0,none⟩) m m) (w':=w.alloc (.cells res e)) ?_ (hn _ _ g' _ _ (hq k) k2 ?_ k3)
 ·simp [execOp,bq]
 rw [aa];have Mg:m<=65536:=Nat.le_trans (Nat.le_mul_of_pos_right m (by omega)) q3;refine ⟨_,m,0,k1,rfl,rfl,Nat.le_refl _,by unfold aq;omega,by omega,?_,fun _=>rfl,by unfold oI;omega⟩;refine ⟨_,_,_,heap_alloc_new w _,?_⟩;have:=e4.length;have h2:res.size=l.flatten.length:=by rw [<- Array.length_toList,vM];omega
 have h3:=kZ e3;simp only [Nat.zero_add];rw [h2,h3,q1];omega
theorem IB {own jW:List Nat} {o:Oper} {K:AV->ab->Prop} {next:Act->World->Prop} {Q:Exit->Act->World->Prop}
  (hq:gF P own jW o.dst r h K o.op) (hc:bK n X g0 r h a w) (hn:mH X g0 h w K o.dst a next):o.wp P a w next Q:=by
 unfold gF at hq;split at hq
 ·rename_i cl d e1 e2;split at hq
  ·exact VD e1 hq hc hn
  rw [<- e1] at hq;exact BT hq hc hn
 ·rename_i t m parts d e1 e2;split at hq
  ·exact VE e1 hq hc hn
  rw [<- e1] at hq;exact BT hq hc hn
 exact BT hq hc hn
end Go.Abs
/-
 The abstract fB,part J: the AN LZ xd the code does.
-/
namespace Go.Abs
open Go
variable {P:Program} {n:Nat} {X:Nat->Prop} {g0:Gh} {r:aC} {h:ab} {a:Act} {w:World}
theorem Oh {d:Nat}:∀ {g:G},oO.Dy g d=false->∀ e∈g,e.1≠d
 | [],_,e,he=>by cases he
 | (t,b,w)::g,hm,e,he=>by
   unfold oO.Dy at hm;split at hm
   ·cases hm
   rename_i ht;rcases List.mem_cons.1 he with rfl|he
   ·intro e;subst e;rw [Nat.beq_refl] at ht;cases ht
   exact Oh hm e he
theorem wo {t:Nat} {gg:G} {v:AV} {d:Nat} (hn:oO ((t,gg,v)::r) d=true):(∀ e∈gg,e.1≠d)/\oO r d=true:=by
 cases gg with
 | nil=>exact ⟨by simp,hn⟩
 | cons e g=>
   unfold oO at hn;split at hn
   ·cases hn
   rename_i hm;exact ⟨Oh hm,hn⟩
theorem yj {d:Nat}:∀ {r:aC} {t:Nat} {gg:G} {v:AV},oO r d=true->bj r t=some (gg,v)->∀ e∈gg,e.1≠d
 | [],t,gg,v,_,h=>by cases h
 | (t',g',v')::r,t,gg,v,hn,h=>by
   obtain ⟨h1,h2⟩:=wo hn;unfold bj at h;split at h
   ·cases h;exact h1
   exact yj h2 h
theorem EG {d:Nat} {u:Value} {gg:G} (hd:∀ e∈gg,e.1≠d):cZ (a.put (some d) u) gg↔cZ a gg:=by
 unfold cZ;constructor
 ·intro hh e he;have:=hh e he;simpa [Act.put,Array.getElem?_setIfInBounds_ne (Ne.symm (hd e he))] using this
 intro hh e he;have:=hh e he;simpa [Act.put,Array.getElem?_setIfInBounds_ne (Ne.symm (hd e he))] using this
theorem bK.step {g':Gh} {h':ab} {w':World} (hc:bK n X g0 r h a w) (dw:CW X g' h' w') (aA:Step X g0 h w g' h' w'):bK n X g' r h' a w':=
 ⟨dw,fun t gg v hl=>⟨fun hh=>let ⟨h1,u,h2,h3⟩:=(hc.kX t gg v hl).1 hh;⟨h1,u,h2,aa.mono (Step.le aA) _ _ h3⟩,(hc.kX t gg v hl).2⟩,hc.defers,hc.size⟩
theorem bK.put {g':Gh} {h':ab} {w':World} (hc:bK n X g0 r h a w) (dw:CW X g' h' w') (aA:Step X g0 h w g' h' w') {d:Nat} (hd:d<n) {gg:G} {v:AV} {u:Value}
  (qf:oO ((d,gg,v)::r) d=true) (h1:cZ a gg->(∀ e∈gg,e.2.1=e.2.2)/\aa ⟨g',live X h',w'⟩ v u) (h2:¬ cZ a gg->u=undef) :
  bK n X g' ((d,gg,v)::r) h' (a.put (some d) u) w':=by
 obtain ⟨n1,n2⟩:=wo qf;have lg:(a.put (some d) u).tmps[d]?=some u:=by have:=hc.size;simp [Act.put,Array.getElem?_setIfInBounds,show d<a.tmps.size from by omega]
 refine ⟨dw,?_,hc.defers,by simpa [Act.put] using hc.size⟩;intro t EH v' hl;unfold bj at hl;split at hl
 ·rename_i ht;have ht:=Nat.eq_of_beq_eq_true ht;subst ht;cases hl
  rw [EG n1,lg];exact ⟨fun hh=>⟨(h1 hh).1,u,rfl,(h1 hh).2⟩,fun hh=>by rw [h2 hh]⟩
 rename_i ht;have aI:t≠d:=by intro e;subst e;rw [Nat.beq_refl] at ht;cases ht
 rw [EG (yj n2 hl)];have hg:(a.put (some d) u).tmps[t]?=a.tmps[t]?:=(by simp [Act.put,Array.getElem?_setIfInBounds_ne (Ne.symm aI)]);rw [hg];exact (hc.step dw aA).kX t EH v' hl
theorem zH {g':Gh} {h':ab} {w':World} {d:Option Tmp} {gg:G} {v:AV} {u:Value} {K:aC->Prop} (hc:bK n X g0 r h a w) (dw:CW X g' h' w') (aA:Step X g0 h w g' h' w')
  (hs:fN n d gg v r K) (h1:cZ a gg->(∀ e∈gg,e.2.1=e.2.2)/\aa ⟨g',live X h',w'⟩ v u) (h2:¬ cZ a gg->u=undef) :
  ∃ r',K r'/\bK n X g' r' h' (a.put d u) w':=by
 unfold fN at hs;split at hs
 ·exact ⟨r,hs,by simpa [Act.put] using hc.step dw aA⟩
 split at hs<;>try contradiction
 rename_i aL;split at hs<;>try contradiction
 rename_i qf;rw [Nat.blt_eq] at aL;exact ⟨_,hs,hc.put dw aA aL qf h1 h2⟩
theorem zJ:∀ {ts:List Nat} {k:aC->Prop},oP r k ts->∃ l,k l/\∀ t gg v,bj l t=some (gg,v)->bj r t=some (gg,v)
 | [],k,h=>⟨[],h,fun t gg v hl=>by cases hl⟩
 | t::ts,k,h=>by
   unfold oP at h;split at h
   ·rename_i v hv;obtain ⟨l,h1,h2⟩:=zJ h;refine ⟨_,h1,fun t' gg v' hl=>?_⟩;unfold bj at hl;split at hl
    ·rename_i ht;have ht:=Nat.eq_of_beq_eq_true ht;subst ht;cases hl
     exact hv
    exact h2 t' gg v' hl
   exact zJ (k:=k) h
theorem bK.less {r':aC} (hc:bK n X g0 r h a w) (hl:∀ t gg v,bj r' t=some (gg,v)->bj r t=some (gg,v)):bK n X g0 r' h a w:=
 ⟨hc.cw,fun t gg v h=>hc.kX t gg v (hl t gg v h),hc.defers,hc.size⟩
theorem VF {cs l:List AV} (hl:cs.length=l.length):cY cs 0 l=l:=by unfold cY;simp [<- hl]
theorem VG {t:TypeId} {d:Nat} {y:Operand} {K:aC->ab->Prop} {o:Oper} {next:Act->World->Prop} {Q:Exit->Act->World->Prop} (ho:o.op=.store t (.tmp d) y) (BW:o.dst=none)
  (hs:xn P r h t d y K) (hc:bK n X g0 r h a w)
  (hn:∀ r' h' g' w',K r' h'->bK n X g' r' h' a w'->Step X g0 h w g' h' w'->next a w'):o.wp P a w next Q:=by
 have ck:cZ a []:=fun e he=>by cases he
 unfold xn at hs;split at hs<;>try contradiction
 rename_i b hx;split at hs<;>try contradiction
 rename_i v hy;split at hs<;>try contradiction
 rename_i l hv;split at hs<;>try contradiction
 rename_i hlen;have hlen:=Nat.eq_of_beq_eq_true hlen;obtain ⟨cs,h',hu,⟨eF,hl⟩,hK⟩:=hs;obtain ⟨l1,l2,rfl,rfl⟩:=aK.split hu;obtain ⟨r1,r2⟩:=za hv (hc.aM ck hy);have gb:=hc.aM ck hx;obtain ⟨p,cc,tt,p1,p2,p3,p4,p5,p6⟩:=EB (o:=0) hc.cw (by omega) r1 (by intro u hu;exact r2 u (by simpa using hu));rw [VF hl] at p5 p6;rw [aa] at gb;obtain ⟨p',q1,q2,q3⟩:=gb;simp only at q1;rw [p1] at q1;cases q1
 have BU:=r1.length;simp at BU
 obtain ⟨s1,s2⟩:=p5.sub (h':=l1++l2) (by
   intro k o hm;simp only [List.mem_append,List.mem_cons] at hm ⊢;rcases hm with h|h
   ·exact .inl h
   ·exact .inr (.inr h)) (by
   have:=p5.nodup;rw [tI] at this;simp only [keys,List.map_append,List.nodup_append,List.nodup_cons,List.mem_cons] at this ⊢;exact ⟨this.1,this.2.1.2,fun x hx y hy=>this.2.2 x hx y (.inr hy)⟩)
 have bq:(execOp a.eval o).run P w=.ok .skip (w.setCells p.block (p.off+0) (a.eval y).cells.toList):=by have:=NO (P:=P) (w:=w) (t:=t) (b:=p.block) (o:=p.off+0) (u:=a.eval y) (by omega) (by omega) p3 (by simp at p4;omega) r2;simp only [Nat.add_zero] at this q3;simp [execOp,ho,q3,this]
 have BX:=p5.sj;have BY:=p5.sep b (by rw [iQ];exact .inl rfl);have jm:=p5.obj b (.vec l) (by simp);refine DB bq ?_;rw [BW];refine hn _ _ g0 _ hK ?_ (p6.trans hc.cw.own s2);have cJ:=hc.step s1 (p6.trans hc.cw.own s2);refine ⟨s1,fun t' gg v' fp=>?_,hc.defers,hc.size⟩;unfold bj at fp;split at fp
 ·rename_i ht;have ht:=Nat.eq_of_beq_eq_true ht;subst ht;cases fp
  refine ⟨fun _=>⟨by simp,?_⟩,fun hh=>absurd ck hh⟩
  have uP:∃ u,a.tmps[d]?=some u/\a.eval (.tmp d)=u:=by
   simp only [Abs.aM] at hx;split at hx<;>try contradiction
   rename_i g' v' dz;split at hx<;>try contradiction
   rename_i gm;have hh:=GB ck gm;obtain ⟨_,u,hu,_⟩:=(hc.kX _ _ _ dz).1 hh;exact ⟨u,hu,LF hu⟩
  obtain ⟨u,uQ,gf⟩:=uP;refine ⟨u,uQ,?_⟩;rw [aa];rw [gf] at q3;refine ⟨p.block,p.off+0,q3,?_⟩;obtain ⟨pp,rz,t2,h1,h2,h3,h4,h5,h6⟩:=jm;simp only at h1 h3 h4;rw [p1] at h1;cases h1
  -- the cells,one by one
  have key:∀ (l':List AV) (o:Nat),(∀ i x,l'[i]?=some x->∃ u,rz[p.off+(o+i)]?=some u/\u.oneCell'=true/\aa ⟨g0,live X (l1++(b,.vec l)::l2),w.setCells p.block (p.off+0) (a.eval y).cells.toList⟩ x u) ->
    bz ⟨g0,live X (l1++l2),w.setCells p.block (p.off+0) (a.eval y).cells.toList⟩ l' p.block (p.off+o):=by
   intro l';induction l' with
   | nil=>intro o _;simp [bz]
   | cons x l' ih=>
     intro o hh;simp only [bz];obtain ⟨u,e1,e2,e3⟩:=hh 0 x (by simp);refine ⟨⟨u,?_,e2,?_,aa.mono (Step.le s2) _ _ e3⟩,?_⟩
     ·rw [cell_of_row _ p.block _ rz t2 _ h4];simpa using e1
     ·intro k s hk wq;simp only at hk;rw [h3] at hk;cases hk
      rcases wq with hx|hk
      ·exact absurd hx BY
      exact absurd hk BX
     rw [show p.off+o+1=p.off+(o+1) from rfl];refine ih (o+1) (fun i x hx=>?_);have:=hh (i+1) x (by simpa using hx);rwa [show o+(i+1)=o+1+i from by omega] at this
  exact key l 0 (fun i x hx=>by simpa using h6 i x hx)
 exact cJ.kX t' gg v' fp
theorem EI {o:Oper} {f:Nat->Option Bool} (h:o.guard=none):Region.wanted o f=true:=by simp [Region.wanted,h]
theorem VH {v w:Bool} (h:Dv v w=true):v=w:=by cases v<;>cases w<;>first|rfl|cases h
theorem Oi {tj:Nat} {w:Bool} (hw:a.tmps[tj]?=some (.bool w)):∀ {g:G},cZ a (ug tj w g)↔cZ a g
 | []=>Iff.rfl
 | (t,b,v)::g=>by
   have ih:=Oi hw (g:=g)
   have hc:∀ {g':G},cZ a ((t,b,v)::g')↔(a.tmps[t]?=some (.bool v)/\cZ a g'):=by
    intro g';unfold cZ
    exact ⟨fun hh=>⟨hh (t,b,v) (by simp),fun e he=>hh e (by simp [he])⟩,fun hh e he=>by
     rcases List.mem_cons.1 he with rfl|he
     ·exact hh.1
     exact hh.2 e he⟩
   unfold ug;split
   ·rename_i ht;have ht:=Nat.eq_of_beq_eq_true ht;subst ht;split
    ·rename_i hv;have hv:=VH hv;subst hv;rw [ih,hc];exact ⟨fun h1=>⟨hw,h1⟩,fun h1=>h1.2⟩
    rw [hc,hc,ih]
   rw [hc,hc,ih]
theorem EJ {tj:Nat} {w:Bool}:∀ {g:G},∀ e∈ug tj w g,e∈g
 | [],e,he=>he
 | (t,b,v)::g,e,he=>by
   unfold ug at he;split at he
   ·split at he
    ·exact List.mem_cons_of_mem _ (EJ e he)
    rcases List.mem_cons.1 he with rfl|he
    ·simp
    exact List.mem_cons_of_mem _ (EJ e he)
   rcases List.mem_cons.1 he with rfl|he
   ·simp
   exact List.mem_cons_of_mem _ (EJ e he)
theorem Oj {tj:Nat} {w:Bool}:∀ {r:aC} {t:Nat} {gg:G} {v:AV},bj (sY tj w r) t=some (gg,v)->∃ g,bj r t=some (g,v)/\gg=ug tj w g
 | [],t,gg,v,h=>by cases h
 | (t',g',v')::r,t,gg,v,h=>by
   unfold sY bj at h;unfold bj;split at h
   ·rename_i e;cases h
    exact ⟨g',by first|rfl|rw [e],rfl⟩
   rename_i e;obtain ⟨g,h1,h2⟩:=Oj h;exact ⟨g,by first|exact h1|(rw [e];exact h1),h2⟩
theorem bK.sY {tj:Nat} {w0:Bool} (hc:bK n X g0 r h a w) (hw:a.tmps[tj]?=some (.bool w0)) (he:∀ t g v,bj r t=some (g,v)->cZ a g->∀ e∈g,e.2.1=e.2.2):bK n X g0 (sY tj w0 r) h a w:=by refine ⟨hc.cw,fun t gg v hl=>?_,hc.defers,hc.size⟩;obtain ⟨g,h1,rfl⟩:=Oj hl;rw [Oi hw];exact ⟨fun hh=>⟨fun e hm=>he t g v h1 hh e (EJ e hm),((hc.kX t g v h1).1 hh).2⟩,fun hh=>(hc.kX t g v h1).2 hh⟩
theorem Ol {c:aw} {all:List Oper} {K:aC->ab->Prop} {Q:Exit->Act->World->Prop}:∀ (l:List Oper) (i:Nat) (r:aC) (h:ab) (g0:Gh) (a:Act) (w:World),
  (∀ j,all[i+j]?=l[j]?)->kV P c n all K l r h->bK n X g0 r h a w ->
  (∀ r' h' g' a' w',K r' h'->bK n X g' r' h' a' w'->Step X g0 h w g' h' w'->Q .normal a' w') ->
  wpOps P all.toArray Q (List.range' i l.length) a w
 | [],i,r,h,g0,a,w,hi,hr,hc,hf=>by unfold kV at hr;obtain ⟨r',hK,hl⟩:=zJ (k:=fun r'=>K r' h) hr;exact hf r' h g0 a w hK (hc.less hl) (Step.refl _ _ _ _)
 | o::l,i,r,h,g0,a,w,hi,hr,hc,hf=>by
   have ck:cZ a []:=fun e he=>by cases he
   have VI:all.toArray[i]?=some o:=by have:=hi 0;simpa using this
   have dH:∀ j,all[i+1+j]?=l[j]?:=fun j=>by have:=hi (j+1);rw [show i+1+j=i+(j+1) from by omega];simpa using this
   simp only [List.length_cons,List.range'_succ,wpOps,VI]
   -- xd follows
   have uR:∀ (r':aC) (h':ab) (g':Gh) (a':Act) (w':World),kV P c n all K l r' h'->bK n X g' r' h' a' w'->Step X g0 h w g' h' w' ->
     wpOps P all.toArray Q (List.range' (i+1) l.length) a' w':=fun r' h' g' a' w' ti bQ aA=>
    Ol l (i+1) r' h' g' a' w' dH ti bQ (fun r2 h2 g2 a2 w2 hK cJ mJ=>hf r2 h2 g2 a2 w2 hK cJ (aA.trans hc.cw.own mJ))
   have fR:∀ {a':Act},mH X g0 h w (fun v h'=>fN n o.dst [] v r fun r'=>kV P c n all K l r' h') o.dst a (wpOps P all.toArray Q (List.range' (i+1) l.length)):=by intro _ v h' g' u w' hs dw cG aA;obtain ⟨r',hK,bQ⟩:=zH (u:=u) hc dw aA hs (fun _=>⟨by simp,cG⟩) (fun hh=>absurd ck hh);exact uR r' h' g' _ w' hK bQ aA
   unfold kV at hr;split at hr
   ·-- no guard
    rename_i gC;rw [if_pos (EI gC)];left;split at hr
    ·split at hr
     ·rename_i t d y de BW;split at hr
      ·refine VG de BW hr hc (fun r' h' g' w' hK bQ aA=>uR r' h' g' a w' hK bQ aA)
      exact BT hr hc (fR (a':=a))
     exact IB hr hc (fR (a':=a))
    refine DM hr hc ck (by simp) ?_;intro v g' u w' hs dw cG aA;obtain ⟨r',hK,bQ⟩:=zH (u:=u) hc dw aA hs (fun _=>⟨by simp,cG⟩) (fun hh=>absurd ck hh);exact uR r' h g' _ w' hK bQ aA
   -- a guard
   rename_i j wt gC;split at hr<;>try contradiction
   rename_i oj BZ;split at hr<;>try contradiction
   rename_i tj Ca;split at hr<;>try contradiction
   rename_i gj b dz;have uP:=hc.kX tj gj (.bool b) dz
   have hy:yielded all.toArray a.tmps j=match a.tmps[tj]? with|some (.bool b)=>some b|_=>none:=by
    unfold yielded;simp [BZ,Ca];rcases a.tmps[tj]? with _|v
    ·rfl
    cases v<;>rfl
   have Cb:Region.wanted o (yielded all.toArray a.tmps)=(yielded all.toArray a.tmps j == some wt):=(by simp [Region.wanted,gC]);have tO:cZ a gj->Region.wanted o (yielded all.toArray a.tmps)=decide (b=wt)/\a.tmps[tj]?=some (.bool b)/\∀ e∈gj,e.2.1=e.2.2:=by intro hh;obtain ⟨h1,u,h2,h3⟩:=uP.1 hh;rw [aa] at h3;subst h3;refine ⟨?_,h2,h1⟩;rw [Cb,hy,h2];simp only;cases b<;>cases wt<;>rfl
   have IC:¬ cZ a gj->Region.wanted o (yielded all.toArray a.tmps)=false/\a.tmps[tj]?=some undef:=by intro hh;have h1:=uP.2 hh;refine ⟨?_,h1⟩;rw [Cb,hy,h1];rfl
   have iP:cZ a (gj++[(tj,b,wt)])↔(cZ a gj/\b=wt):=by
    constructor
    ·intro hh;have h1:cZ a gj:=fun e he=>hh e (by simp [he]);refine ⟨h1,?_⟩;have h2:=hh (tj,b,wt) (by simp);simp only at h2;rw [(tO h1).2.1] at h2;cases h2;rfl
    rintro ⟨h1,rfl⟩ e he;simp only [List.mem_append,List.mem_singleton] at he;rcases he with he|rfl
    ·exact h1 e he
    exact (tO h1).2.1
   split at hr
   ·-- a call that is split
    split at hr<;>try contradiction
    obtain ⟨tP,uS⟩:=hr;obtain ⟨y1,y2,y3⟩:=tO ck;rw [y1];by_cases hb:b=wt
    ·simp only [hb,decide_true,if_true];left;have cJ:=hc.sY (w0:=wt) (by rw [y2,hb]) (fun t g v hl hh=>((hc.kX t g v hl).1 hh).1);refine BT (tP hb) cJ ?_;intro v h' g' u w' hs dw cG aA;obtain ⟨r',hK,bQ⟩:=zH (u:=u) cJ dw aA hs (fun _=>⟨by simp,cG⟩) (fun hh=>absurd ck hh);exact uR r' h' g' _ w' hK bQ aA
    simp only [hb,decide_false,Bool.false_eq_true,if_false]
    obtain ⟨r',hK,bQ⟩:=zH (u:=undef) hc hc.cw (Step.refl _ _ _ _) (uS hb) (fun hh=>by
     have:=hh (tj,b,wt) (by simp);simp only at this;rw [y2] at this;cases this;exact absurd rfl hb) (fun _=>rfl)
    exact uR r' h g0 _ w hK bQ (Step.refl _ _ _ _)
   split at hr<;>try contradiction
   by_cases hh:cZ a (gj++[(tj,b,wt)])
   ·obtain ⟨h1,h2⟩:=iP.1 hh;obtain ⟨y1,y2,y3⟩:=tO h1;rw [y1];simp only [h2,decide_true,if_true];left
    have he:∀ e∈gj++[(tj,b,wt)],e.2.1=e.2.2:=by
     intro e he;simp only [List.mem_append,List.mem_singleton] at he;rcases he with he|rfl
     ·exact y3 e he
     exact h2
    refine DM hr hc hh he ?_;intro v g' u w' hs dw cG aA;obtain ⟨r',hK,bQ⟩:=zH (u:=u) hc dw aA hs (fun _=>⟨he,cG⟩) (fun hn=>absurd hh hn);exact uR r' h g' _ w' hK bQ aA
   have hw:Region.wanted o (yielded all.toArray a.tmps)=false:=by
    by_cases h1:cZ a gj
    ·rw [(tO h1).1];simp only [decide_eq_false_iff_not];intro hb;exact hh (iP.2 ⟨h1,hb⟩)
    exact (IC h1).1
   rw [hw];simp only [Bool.false_eq_true,if_false];obtain ⟨v,hs⟩:=BO hr;obtain ⟨r',hK,bQ⟩:=zH (u:=undef) hc hc.cw (Step.refl _ _ _ _) hs (fun hy=>absurd hy hh) (fun _=>rfl);exact uR r' h g0 _ w hK bQ (Step.refl _ _ _ _)
end Go.Abs
/-
 The abstract fB,part K: xd a quiet operation O7 on.
-/
namespace Go.Abs
open Go
variable {P:Program} {n:Nat} {X:Nat->Prop} {g0:Gh} {r:aC} {h:ab} {a:Act} {w:World}
theorem ID {g:G} {K:AV->Prop} {op:Op} (hq:bI P r g h K op):∃ v,K v/\bI P r g h (fun x=>x=v) op:=by
 have sf:∀ {k:IntKind} {m:Int} {K:AV->Prop},arith g k m K->∃ v,K v/\arith g k m (fun x=>x=v):=by intro k m K hh;unfold arith at hh ⊢;cases k<;>first|exact ⟨_,hh.2,hh.1,rfl⟩|exact ⟨_,hh,rfl⟩
 have wi:∀ {t:TypeId} {cs:List AV} {K:AV->Prop},fZ P t cs K->∃ v,K v/\fZ P t cs (fun x=>x=v):=by
  intro t cs K hh;unfold fZ at hh ⊢
  (repeat' split at hh)<;>first|exact ⟨_,hh,rfl⟩|exact hh.elim
 have IE:∀ {t:TypeId} {op:BinOp} {x y:AV} {K:AV->Prop},sV P g t op x y K->∃ v,K v/\sV P g t op x y (fun x=>x=v):=by
  intro t op x y K;unfold sV;simp only [oJ];repeat' split
  all_goals first
   | exact fun hh=>hh.elim
   | exact fun hh=>⟨_,hh,rfl⟩
   | exact fun hh=>⟨_,hh.2,hh.1,rfl⟩
   | exact fun hh=>let ⟨v,h1,h2⟩:=sf hh.2;⟨v,h1,hh.1,h2⟩
   | exact fun hh=>let ⟨v,h1,h2⟩:=sf hh.2.2;⟨v,h1,hh.1,hh.2.1,h2⟩
   | exact fun hh=>⟨_,hh.2.2,hh.1,hh.2.1,rfl⟩
 have hlen:∀ {d:Option TypeDesc} {x:AV} {K:AV->Prop},sX d x K->∃ v,K v/\sX d x (fun x=>x=v):=by
  intro d x K;unfold sX;repeat' split
  all_goals first
   | exact fun hh=>hh.elim
   | exact fun hh=>⟨_,hh,rfl⟩
 have gn:∀ {x:AV} {lo hi:Int} {b:Bool} {K:AV->Prop},oM g x lo hi b K->∃ v,K v/\oM g x lo hi b (fun x=>x=v):=by
  intro x lo hi b K;unfold oM;repeat' split
  all_goals first
   | exact fun hh=>hh.elim
   | exact fun hh=>⟨_,hh.2,hh.1,rfl⟩
 have lV:∀ {s:TypeId} {xs:List (List AV)} {K:AV->Prop},ud P s xs K->∃ v,K v/\ud P s xs (fun x=>x=v):=by
  intro s xs K;unfold ud;repeat' split
  all_goals first
   | exact fun hh=>hh.elim
   | exact fun ⟨ns,h1,hh⟩=>⟨_,hh,ns,h1,rfl⟩
 revert hq;unfold bI;repeat' split
 all_goals first
  | exact fun hh=>hh.elim
  | exact fun hh=>⟨_,hh,rfl⟩
  | exact lV
  | exact wi
  | exact sf
  | exact IE
  | exact hlen
  | exact gn
  | exact fun ⟨cs,l,h1,h2,hq⟩=>let ⟨v,k1,k2⟩:=wi hq;⟨v,k1,cs,l,h1,h2,k2⟩
  | exact fun ⟨j,y,h1,hq⟩=>⟨_,hq,j,y,h1,rfl⟩
  | exact fun ⟨es,v,f,h1,h2,hq⟩=>⟨_,hq,es,v,f,h1,h2,rfl⟩
  | exact fun ⟨j,l,h1,h2,hq⟩=>⟨_,hq,j,l,h1,h2,rfl⟩
  | exact fun ⟨h1,hq⟩=>⟨_,hq,h1,rfl⟩
  | exact fun ⟨j,h1,hq⟩=>⟨_,hq,j,h1,rfl⟩
theorem EK {t:Nat}:∀ {xs:List Operand},Operand.tmp t∈xs->t∈qH xs
 | x::xs,h=>by
   rcases List.mem_cons.1 h with rfl|h
   ·simp [qH]
   have:=EK h;cases x<;>simp [qH,this]
theorem IF {r1 r2:aC} {g:G} {x:Operand} (h:∀ t,x=.tmp t->bj r1 t=bj r2 t):aM r1 g x=aM r2 g x:=by
 cases x with
 | tmp t=>simp only [aM,h t rfl]
 | _=>rfl
theorem Cc {r1 r2:aC} {g:G}:∀ {xs:List Operand},(∀ x∈xs,aM r1 g x=aM r2 g x)->bU r1 g xs=bU r2 g xs
 | [],_=>rfl
 | x::xs,h=>by unfold bU;rw [h x (by simp),Cc fun y hy=>h y (by simp [hy])]
theorem Om {r1 r2:aC} {g:G}:∀ {xs:List (Nat × Operand)},(∀ x∈xs.map (·.2),aM r1 g x=aM r2 g x)->partsOf r1 g xs=partsOf r2 g xs
 | [],_=>rfl
 | (i,x)::xs,h=>by unfold partsOf;rw [h x (by simp),Om fun y hy=>h y (by simp only [List.map_cons,List.mem_cons];exact .inr hy)]
theorem EL {r1 r2:aC} {g:G} {size:Nat}:∀ {xs:List (Nat × Operand)} {k:Nat},(∀ x∈xs.map (·.2),aM r1 g x=aM r2 g x)->hZ r1 g size k xs=hZ r2 g size k xs
 | [],_,_=>rfl
 | (i,x)::xs,k,h=>by unfold hZ;rw [h x (by simp),EL fun y hy=>h y (by simp only [List.map_cons,List.mem_cons];exact .inr hy)]
theorem On {r1 r2:aC} {g:G} {x:Option Operand} {d:Int} (h:∀ y,x=some y->aM r1 g y=aM r2 g y):oN r1 g x d=oN r2 g x d:=by
 cases x with
 | none=>rfl
 | some y=>simp only [oN,h y rfl]
theorem Oo {r1 r2:aC} {g:G} {K:AV->Prop} {op:Op} (h':∀ t∈qH op.operands.toList,bj r1 t=bj r2 t) (hq:bI P r1 g h K op):bI P r2 g h K op:=by
 have hx:∀ g,∀ x∈op.operands.toList,aM r1 g x=aM r2 g x:=by intro g x hx;exact IF fun t ht=>h' t (EK (ht ▸ hx))
 clear h';cases op
 case pick c x y=>
  have h1:=fun g=>hx g c (by simp [Op.operands]);have h2:=fun g=>hx g x (by simp [Op.operands]);have h3:=fun g=>hx g y (by simp [Op.operands]);clear hx;revert hq;unfold bI;split;all_goals first|exact fun hh=>hh.elim|skip
  all_goals simp_all
 case call cl=>
  have jv:∀ g,bU r1 g cl.args.toList=bU r2 g cl.args.toList:=fun g=>Cc fun x iJ=>hx g x (by simp [Op.operands,Call.operands];exact .inr (by simpa using iJ));have cM:∀ g t,cl.callee=.value (.tmp t)->aM r1 g (.tmp t)=aM r2 g (.tmp t):=fun g t ht=>hx g _ (by simp [Op.operands,Call.operands,ht]);clear hx;revert hq;unfold bI;simp only [jv];split;all_goals first|exact fun hh=>hh|skip
  rename_i t ht;rw [cM _ _ ht];exact fun hh=>hh
 case build t ps=>
  simp only [bI] at hq ⊢;rw [<- Om (r1:=r1) (fun x iJ=>hx g x (by simpa [Op.operands] using iJ))];exact hq
 case buildSlice t m ps=>
  simp only [bI] at hq ⊢;revert hq;split
  ·rw [<- EL (r1:=r1) (fun x iJ=>hx g x (by simpa [Op.operands] using iJ))];exact fun hh=>hh
  exact fun hh=>hh
 case makeFunc f first bB=>
  have jv:∀ g,bU r1 g bB.toList=bU r2 g bB.toList:=fun g=>Cc fun x iJ=>hx g x (by simp [Op.operands];exact .inr (by simpa using iJ));cases f<;>simp only [bI] at hq ⊢<;>first|exact hq|skip
  rw [<- jv];exact hq
 case slice t x lo hi mx=>
  cases mx<;>simp only [bI] at hq ⊢<;>try exact hq
  rw [<- hx g x (by simp [Op.operands])];have h2:∀ d,oN r1 g lo d=oN r2 g lo d:=fun d=>On fun y hy=>hx g y (by subst hy;simp [Op.operands]);have h3:∀ d,oN r1 g hi d=oN r2 g hi d:=fun d=>On fun y hy=>hx g y (by subst hy;simp [Op.operands]);simp only [<- h2,<- h3];exact hq
 case makeMap t rr=>simp [bI] at hq
 case unOp o t x=>
  have h1:=hx g x (by simp [Op.operands]);cases o<;>first|(simp [bI] at hq;done)|(simp only [bI] at hq ⊢;rw [<- h1];exact hq)
 all_goals first
  | (simp [bI] at hq;done)
  | (simp only [Op.operands] at hx
     simp only [bI] at hq ⊢
     (try simp at hx)
     (try simp only [hx] at hq)
     exact hq)
theorem IG {g:G} {K:AV->Prop} {op:Op} (hf:qI r g op=true) {h':ab} (hq:bI P r g h K op):bI P r g h' K op:=by
 cases op
 case load t x=>
  simp only [bI,qI] at hq hf ⊢;split at hf
  ·rename_i cs hx;simp only [hx] at hq ⊢;exact hq
  cases hf
 case call cl=>
  unfold qI at hf;simp only at hf;split at hf
  ·rename_i b hb;unfold bI at hq ⊢;simp only [hb] at hq ⊢;cases b<;>exact hq
  cases hf
 case pick c x y=>
  revert hq;unfold bI;split;all_goals first|exact fun hh=>hh|contradiction|(rename_i hh;cases hh)
 case lookup t x i ok=>simp [qI] at hf
 case unOp o t x=>cases o<;>first|(simp [bI] at hq;done)|(simp only [bI] at hq ⊢;exact hq)
 case slice t x lo hi mx=>cases mx<;>first|(simp [bI] at hq;done)|(simp only [bI] at hq ⊢;exact hq)
 case makeFunc f first bB=>cases f<;>first|(simp [bI] at hq;done)|(simp only [bI] at hq ⊢;exact hq)
 all_goals first|exact hq|(simp [bI] at hq;done)
end Go.Abs
