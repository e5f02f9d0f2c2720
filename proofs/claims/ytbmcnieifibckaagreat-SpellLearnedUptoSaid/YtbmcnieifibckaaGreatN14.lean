/- What is proved: small laws for the walks of this seat, and contracts of its functions. No condition but those each theorem names. -/
import Derived.Test.YtbmcnieifibckaaGreatN13
import Derived.Test.YtbmcnieifibckaaGreatN1
import Derived.Test.YtbmcnieifibckaaGreatN8
import Derived.Test.YtbmcnieifibckaaGreatN7
import Derived.Lib.Overlaps
set_option maxRecDepth 100000
set_option maxHeartbeats 2000000
set_option linter.unusedVariables false
set_option linter.unusedSimpArgs false
namespace Go.Abs.Wall
open Go Go.Abs Go.Proofs
end Go.Abs.Wall
namespace Go.Abs.Wall
structure Wy where
 cost:Int
 aO:Nat
 aM:Nat
def dm (x y:Wy):Prop:=x.cost<y.cost\/(x.cost=y.cost/\x.aO<y.aO)
theorem dm.ud {x:Wy}:¬ dm x x:=by unfold dm;omega
theorem dm.trans {x y z:Wy} (h1:dm x y) (h2:dm y z):dm x z:=by unfold dm at *;omega
theorem dm.yw {x y:Wy} (h1:dm x y) (h2:dm y x):False:=dm.ud (h1.trans h2)
def iv (cls:List (List Int)) (rs:Nat->Nat) (x:Wy):Prop:=x.aM=rs x.aO/\∃ l,cls[x.aO]?=some l/\l[x.aM]?=some x.cost
theorem iv.eq {cls:List (List Int)} {rs:Nat->Nat} {x y:Wy} (h1:iv cls rs x) (h2:iv cls rs y) (h:x.aO=y.aO):x=y:=by
 obtain ⟨a1,l,a2,a3⟩:=h1;obtain ⟨b1,m,b2,b3⟩:=h2;obtain ⟨c,e,r⟩:=x;obtain ⟨c',e',r'⟩:=y;simp only at h a1 a2 a3 b1 b2 b3;subst h;subst a1 b1;rw [a2] at b2;cases b2
 rw [a3] at b3;cases b3
 rfl
def nO (rs:Nat->Nat):List (List Int)->Nat->Option Wy
 | [],_=>none
 | l::ls,k=>match l[rs k]? with
   | none=>nO rs ls (k+1)
   | some c=>match nO rs ls (k+1) with
     | none=>some ⟨c,k,rs k⟩
     | some y=>if c<=y.cost then some ⟨c,k,rs k⟩ else some y
theorem IU {rs:Nat->Nat}:∀ {ls:List (List Int)} {k:Nat},nO rs ls k=none->∀ (j:Nat) l,ls[j]?=some l->l[rs (k+j)]?=none
 | [],k,h,j,l,hj=>by simp at hj
 | l0::ls,k,h,j,l,hj=>by
   unfold nO at h;cases hc:l0[rs k]? with
   | none=>
     simp only [hc] at h;cases j with
     | zero=>simp at hj;subst hj;exact hc
     | succ j=>
       have:=IU h j l (by simpa using hj);rwa [show k+1+j=k+(j+1) by omega] at this
   | some c=>
     simp only [hc] at h;cases hb:nO rs ls (k+1) with
     | none=>simp [hb] at h
     | some y=>simp only [hb] at h;split at h<;>cases h
theorem IV {rs:Nat->Nat}:∀ {ls:List (List Int)} {k:Nat} {x:Wy},nO rs ls k=some x ->
  k<=x.aO/\x.aM=rs x.aO/\(∃ l,ls[x.aO - k]?=some l/\l[x.aM]?=some x.cost)/\∀ (j:Nat) l c,ls[j]?=some l->l[rs (k+j)]?=some c->k+j=x.aO\/x.cost<c\/(x.cost=c/\x.aO<k+j)
 | [],k,x,h=>by simp [nO] at h
 | l0::ls,k,x,h=>by
   unfold nO at h;cases hc:l0[rs k]? with
   | none=>
     simp only [hc] at h;obtain ⟨a1,a2,⟨l,a3,a4⟩,a5⟩:=IV h;refine ⟨by omega,a2,⟨l,?_,a4⟩,fun j l c hj hl=>?_⟩
     ·rw [show x.aO - k=(x.aO - (k+1))+1 by omega];simpa using a3
     cases j with
     | zero=>simp at hj;subst hj;rw [Nat.add_zero,hc] at hl;cases hl
     | succ j=>
       have:=a5 j l c (by simpa using hj) (by rwa [show k+1+j=k+(j+1) by omega]);rw [show k+1+j=k+(j+1) by omega] at this;exact this
   | some c0=>
     simp only [hc] at h;have own:∀ (y:Wy),y=⟨c0,k,rs k⟩->k<=y.aO/\y.aM=rs y.aO/\(∃ l,(l0::ls)[y.aO - k]?=some l/\l[y.aM]?=some y.cost):=by rintro y rfl;exact ⟨Nat.le_refl _,rfl,l0,by simp,hc⟩
     cases hb:nO rs ls (k+1) with
     | none=>
       simp only [hb] at h;cases h
       obtain ⟨o1,o2,o3⟩:=own _ rfl;refine ⟨o1,o2,o3,fun j l c hj hl=>?_⟩;cases j with
       | zero=>exact .inl rfl
       | succ j=>
         have:=IU hb j l (by simpa using hj);rw [show k+1+j=k+(j+1) by omega,hl] at this;cases this
     | some y=>
       simp only [hb] at h;obtain ⟨a1,a2,⟨l,a3,a4⟩,a5⟩:=IV hb;split at h
       ·rename_i hle;cases h
        obtain ⟨o1,o2,o3⟩:=own _ rfl;refine ⟨o1,o2,o3,fun j l c hj hl=>?_⟩;cases j with
        | zero=>exact .inl rfl
        | succ j=>
          have:=a5 j l c (by simpa using hj) (by rwa [show k+1+j=k+(j+1) by omega]);have h3:(⟨c0,k,rs k⟩:Wy).cost=c0:=rfl;have h4:(⟨c0,k,rs k⟩:Wy).aO=k:=rfl;rw [h3,h4];by_cases hq:c0<c
          ·exact .inr (.inl hq)
          refine .inr (.inr ⟨?_,by omega⟩);rcases this with e|e|e
          ·have h5:l[y.aM]?=some c:=by rw [a2,<- e,show k+1+j=k+(j+1) by omega];exact hl
           have h6:ls[j]?=some l:=(by simpa using hj);rw [show y.aO - (k+1)=j by omega,h6] at a3;cases a3
           rw [h5] at a4;cases a4
           omega
          ·omega
          omega
       rename_i hle;cases h
       refine ⟨by omega,a2,⟨l,?_,a4⟩,fun j l c hj hl=>?_⟩
       ·rw [show x.aO - k=(x.aO - (k+1))+1 by omega];simpa using a3
       cases j with
       | zero=>
         simp at hj;subst hj;rw [Nat.add_zero,hc] at hl;cases hl
         exact .inr (.inl (by omega))
       | succ j=>
         have:=a5 j l c (by simpa using hj) (by rwa [show k+1+j=k+(j+1) by omega]);rw [show k+1+j=k+(j+1) by omega] at this;exact this
def gU (cls:List (List Int)) (rs:Nat->Nat):Option Wy:=nO rs cls 0
theorem IW {cls:List (List Int)} {rs:Nat->Nat} (h:gU cls rs=none) (x:Wy):¬ iv cls rs x:=by rintro ⟨h1,l,h2,h3⟩;have:=IU h x.aO l h2;rw [Nat.zero_add,<- h1,h3] at this;cases this
theorem Av {cls:List (List Int)} {rs:Nat->Nat} {x:Wy} (h:gU cls rs=some x):iv cls rs x/\∀ y,iv cls rs y->y=x\/dm x y:=by
 obtain ⟨a1,a2,⟨l,a3,a4⟩,a5⟩:=IV h;have hx:iv cls rs x:=⟨a2,l,by simpa using a3,a4⟩;refine ⟨hx,fun y hy=>?_⟩;obtain ⟨b1,m,b2,b3⟩:=hy;have:=a5 y.aO m y.cost b2 (by rw [Nat.zero_add,<- b1];exact b3);rw [Nat.zero_add] at this;rcases this with e|e|e
 ·exact .inl (iv.eq ⟨b1,m,b2,b3⟩ hx e)
 ·exact .inr (.inl e)
 exact .inr (.inr e)
theorem FH {cls:List (List Int)} {rs:Nat->Nat} {x:Wy} (h:iv cls rs x) (hm:∀ y,iv cls rs y->y=x\/dm x y):gU cls rs=some x:=by
 cases hb:gU cls rs with
 | none=>exact absurd h (IW hb x)
 | some y=>
   obtain ⟨h1,h2⟩:=Av hb;rcases hm y h1 with rfl|e
   ·rfl
   rcases h2 x h with rfl|e2
   ·rfl
   exact (e.yw e2).elim
theorem FI {cls:List (List Int)} {rs:Nat->Nat} (h:∀ x,¬ iv cls rs x):gU cls rs=none:=by
 cases hb:gU cls rs with
 | none=>rfl
 | some y=>exact absurd (Av hb).1 (h y)
def up (rs:Nat->Nat) (k:Nat):Nat->Nat:=fun j=>if j=k then rs k+1 else rs j
def nP:Nat->Nat:=fun _=>0
def gen (cls:List (List Int)):Nat->(Nat->Nat)->List Wy
 | 0,_=>[]
 | n+1,rs=>match gU cls rs with
   | none=>[]
   | some x=>x::gen cls n (up rs x.aO)
def kG (cls:List (List Int)):Nat->(Nat->Nat)->Nat->Nat
 | 0,rs=>rs
 | t+1,rs=>match gU cls rs with
   | none=>rs
   | some x=>kG cls t (up rs x.aO)
theorem Oh {cls:List (List Int)}:∀ (n t:Nat) (rs:Nat->Nat),(gen cls n rs)[t]?=if t<n then gU cls (kG cls t rs) else none
 | 0,t,rs=>by simp [gen]
 | n+1,t,rs=>by
   unfold gen;cases hb:gU cls rs with
   | none=>
     cases t with
     | zero=>simp [kG,hb]
     | succ t=>simp [kG,hb]
   | some x=>
     cases t with
     | zero=>simp [kG,hb]
     | succ t=>
       simp only [List.getElem?_cons_succ,kG,hb];rw [Oh n t];by_cases h:t<n
       ·rw [if_pos h,if_pos (by omega)]
       rw [if_neg h,if_neg (by omega)]
theorem Cr {cls:List (List Int)}:∀ (t:Nat) (rs:Nat->Nat),kG cls (t+1) rs=match gU cls (kG cls t rs) with
  | none=>kG cls t rs
  | some x=>up (kG cls t rs) x.aO
 | 0,rs=>by unfold kG;cases gU cls rs<;>rfl
 | t+1,rs=>by
   have h:kG cls (t+1+1) rs=match gU cls rs with
     | none=>rs
     | some x=>kG cls (t+1) (up rs x.aO):=rfl
   have h2:kG cls (t+1) rs=match gU cls rs with
     | none=>rs
     | some x=>kG cls t (up rs x.aO):=rfl
   rw [h,h2];cases hb:gU cls rs with
   | none=>simp only [hb]
   | some x=>simp only;exact Cr t _
theorem Oi {cls:List (List Int)}:∀ (t:Nat) (rs:Nat->Nat) (k:Nat),kG cls t rs k<=rs k+t
 | 0,rs,k=>by simp [kG]
 | t+1,rs,k=>by
   unfold kG;cases hb:gU cls rs with
   | none=>simp
   | some x=>
     simp only;have:=Oi (cls:=cls) t (up rs x.aO) k;have h2:up rs x.aO k<=rs k+1:=by unfold up;split<;>(try subst_vars)<;>omega
     omega
def pB (rs:Nat->Nat):List (List Int)->Nat->Nat
 | [],_=>0
 | l::ls,k=>(l.length - rs k)+pB rs ls (k+1)
theorem Oj {rs:Nat->Nat}:∀ {ls:List (List Int)} {k:Nat},pB rs ls k=0->nO rs ls k=none
 | [],k,_=>rfl
 | l::ls,k,h=>by
   unfold pB at h;unfold nO;have h1:l[rs k]?=none:=by rw [List.getElem?_eq_none_iff];omega
   rw [h1];exact Oj (by omega)
theorem Ol {rs:Nat->Nat} {e:Nat}:∀ {ls:List (List Int)} {k:Nat},e<k->pB (up rs e) ls k=pB rs ls k
 | [],k,_=>rfl
 | l::ls,k,h=>by unfold pB;rw [Ol (by omega)];unfold up;rw [if_neg (by omega)]
theorem Om {rs:Nat->Nat} {e:Nat}:∀ {ls:List (List Int)} {k:Nat} {l:List Int},k<=e->ls[e - k]?=some l->rs e<l.length->pB (up rs e) ls k+1=pB rs ls k
 | [],k,l,_,h,_=>by simp at h
 | l0::ls,k,l,hk,h,hl=>by
   unfold pB;by_cases he:e=k
   ·subst he;rw [Ol (by omega)];simp at h;subst h;unfold up;rw [if_pos rfl];omega
   have:=Om (rs:=rs) (e:=e) (ls:=ls) (k:=k+1) (l:=l) (by omega) (by rw [show e - k=(e - (k+1))+1 by omega] at h;simpa using h) hl;rw [show up rs e k=rs k by unfold up;rw [if_neg (by omega)]];omega
theorem On {cls:List (List Int)}:∀ (t:Nat) (rs:Nat->Nat),pB rs cls 0<=t->gU cls (kG cls t rs)=none
 | 0,rs,h=>by show nO rs cls 0=none;exact Oj (by omega)
 | t+1,rs,h=>by
   unfold kG;cases hb:gU cls rs with
   | none=>simpa using hb
   | some x=>
     simp only;obtain ⟨⟨h1,l,h2,h3⟩,_⟩:=Av hb;have hl:=(List.getElem?_eq_some_iff.1 h3).1;have:=Om (rs:=rs) (e:=x.aO) (ls:=cls) (k:=0) (l:=l) (Nat.zero_le _) (by simpa using h2) (by omega);exact On t _ (by omega)
def aW (cls:List (List Int)):List Wy:=gen cls (pB nP cls 0) nP
def cU (cls:List (List Int)) (t:Nat):Nat->Nat:=kG cls t nP
theorem lG (cls:List (List Int)) (t:Nat):(aW cls)[t]?=gU cls (cU cls t):=by
 unfold aW cU;rw [Oh];by_cases h:t<pB nP cls 0
 ·rw [if_pos h]
 rw [if_neg h,On t nP (by omega)]
theorem IX (cls:List (List Int)) (t k:Nat):cU cls t k<=t:=by have:=Oi (cls:=cls) t nP k;unfold cU nP at *;omega
theorem ue {cls:List (List Int)} {t:Nat} {x:Wy} (h:(aW cls)[t]?=some x):cU cls (t+1)=up (cU cls t) x.aO:=by rw [lG] at h;unfold cU at h ⊢;rw [Cr,h]
theorem Oo {cls:List (List Int)} {t:Nat} (h:(aW cls)[t]?=none):cU cls (t+1)=cU cls t:=by rw [lG] at h;unfold cU at h ⊢;rw [Cr,h]
theorem jR {cls:List (List Int)} {t:Nat} {x:Wy} (h:(aW cls)[t]?=some x):iv cls (cU cls t) x:=by rw [lG] at h;exact (Av h).1
theorem Cs {cls:List (List Int)} {t:Nat} {x:Wy} (h:(aW cls)[t]?=some x):x.aM<=t:=by have:=(jR h).1;have:=IX cls t x.aO;omega
structure nQ (cls:List (List Int)) (t:Nat) (due:Bool) (Q:List Wy):Prop where
 le:t<=(aW cls).length
 sorted:Q.Pairwise dm
 mem:∀ x,x∈Q↔iv cls (cU cls t) x/\(due=true->∀ y,(aW cls)[t - 1]?=some y->x.aO≠y.aO)
 pos:due=true->1<=t
theorem nQ.last {cls:List (List Int)} {t:Nat} {Q:List Wy} (h:nQ cls t true Q):∃ y,(aW cls)[t - 1]?=some y:=by have h1:=h.le;have h2:=h.pos rfl;exact ⟨_,List.getElem?_eq_getElem (by omega)⟩
theorem nQ.empty {cls:List (List Int)} {t:Nat} (h:nQ cls t false []):(aW cls)[t]?=none:=by rw [lG];refine FI fun x hx=>?_;have:=(h.mem x).2 ⟨hx,fun e=>by cases e⟩;cases this
theorem nQ.pop {cls:List (List Int)} {t:Nat} {x:Wy} {Q:List Wy} (h:nQ cls t false (x::Q)):(aW cls)[t]?=some x/\nQ cls (t+1) true Q:=by
 have hs:=List.pairwise_cons.1 h.sorted;have hx:iv cls (cU cls t) x:=((h.mem x).1 (by simp)).1
 have hg:(aW cls)[t]?=some x:=by
  rw [lG];refine FH hx fun y hy=>?_;have:=(h.mem y).2 ⟨hy,fun e=>by cases e⟩;rcases List.mem_cons.1 this with rfl|hm
  ·exact .inl rfl
  exact .inr (hs.1 y hm)
 refine ⟨hg,?_,hs.2,fun y=>?_,fun _=>by omega⟩
 ·have:=(List.getElem?_eq_some_iff.1 hg).1;omega
 rw [ue hg,show t+1 - 1=t by omega,hg];constructor
 ·intro hy;have hc:=((h.mem y).1 (List.mem_cons_of_mem _ hy)).1;have aJ:y.aO≠x.aO:=fun e=>by have:=iv.eq hc hx e;subst this;exact dm.ud (hs.1 _ hy)
  refine ⟨⟨?_,hc.2⟩,fun _ z hz=>by cases hz;exact aJ⟩;unfold up;rw [if_neg aJ];exact hc.1
 rintro ⟨⟨h1,h2⟩,h3⟩;have aJ:=h3 rfl x rfl;unfold up at h1;rw [if_neg aJ] at h1;have:=(h.mem y).2 ⟨⟨h1,h2⟩,fun e=>by cases e⟩;rcases List.mem_cons.1 this with rfl|hm
 ·exact absurd rfl aJ
 exact hm
def IY (x y:Wy):Bool:=decide (x.cost<y.cost)||(decide (x.cost=y.cost)&&decide (x.aO<y.aO))
theorem Oq {x y:Wy}:IY x y=true↔dm x y:=by unfold IY dm;simp
def cY (x:Wy):List Wy->Nat
 | []=>0
 | y::Q=>if IY y x=true then cY x Q+1 else 0
def iK (x:Wy) (Q:List Wy):List Wy:=Q.take (cY x Q)++x::Q.drop (cY x Q)
theorem Aw (x:Wy):∀ Q,cY x Q<=Q.length
 | []=>Nat.le_refl _
 | y::Q=>by
   unfold cY;split
   ·have:=Aw x Q;simp;omega
   omega
theorem Ot {x y:Wy} {Q:List Wy}:y∈iK x Q↔y=x\/y∈Q:=by
 unfold iK;constructor
 ·intro h;rcases List.mem_append.1 h with h|h
  ·exact .inr (List.mem_of_mem_take h)
  rcases List.mem_cons.1 h with h|h
  ·exact .inl h
  exact .inr (List.mem_of_mem_drop h)
 rintro (rfl|h)
 ·simp
 rw [<- List.take_append_drop (cY x Q) Q] at h;rcases List.mem_append.1 h with h|h
 ·exact List.mem_append.2 (.inl h)
 exact List.mem_append.2 (.inr (List.mem_cons_of_mem _ h))
theorem wM (x:Wy) (Q:List Wy):(iK x Q).length=Q.length+1:=by have:=Aw x Q;unfold iK;simp;omega
theorem FJ {x:Wy}:∀ {Q:List Wy} {j:Nat} {y:Wy},j<cY x Q->Q[j]?=some y->dm y x
 | [],j,y,h,_=>by simp [cY] at h
 | z::Q,j,y,h,hy=>by
   unfold cY at h;split at h
   ·rename_i hz;cases j with
    | zero=>simp at hy;subst hy;exact Oq.1 hz
    | succ j=>exact FJ (x:=x) (Q:=Q) (j:=j) (by omega) (by simpa using hy)
   omega
theorem Ou {x:Wy}:∀ {Q:List Wy} {y:Wy},Q[cY x Q]?=some y->¬ dm y x
 | [],y,h=>by simp at h
 | z::Q,y,h=>by
   unfold cY at h;split at h
   ·exact Ou (by simpa using h)
   rename_i hz;simp at h;subst h;exact fun e=>hz (Oq.2 e)
theorem FK {x:Wy} {Q:List Wy} (hs:Q.Pairwise dm) {j:Nat} {y:Wy} (hj:cY x Q<=j) (hy:Q[j]?=some y):¬ dm y x:=by
 have gl:=(List.getElem?_eq_some_iff.1 hy).1;have h1:Q[cY x Q]?=some Q[cY x Q]:=List.getElem?_eq_getElem (by omega);have h2:=Ou h1;by_cases he:j=cY x Q
 ·subst he;rw [h1] at hy;cases hy
  exact h2
 have h3:=List.pairwise_iff_getElem.1 hs (cY x Q) j (by omega) gl (by omega);have h4:Q[j]=y:=(List.getElem?_eq_some_iff.1 hy).2;rw [h4] at h3;exact fun e=>h2 (h3.trans e)
theorem dm.Ov {x y:Wy} (h:x.aO≠y.aO) (hn:¬ dm y x):dm x y:=by unfold dm at *;omega
theorem Ow {x:Wy} {Q:List Wy} (hs:Q.Pairwise dm) (hn:∀ y∈Q,y.aO≠x.aO):(iK x Q).Pairwise dm:=by
 unfold iK;rw [List.pairwise_append];refine ⟨List.Pairwise.sublist (List.take_sublist _ _) hs,?_,?_⟩
 ·rw [List.pairwise_cons];refine ⟨fun y hy=>?_,List.Pairwise.sublist (List.drop_sublist _ _) hs⟩;obtain ⟨j,hj⟩:=List.mem_iff_getElem?.1 hy;rw [List.getElem?_drop] at hj;exact dm.Ov (fun e=>hn y (List.mem_of_mem_drop hy) e.symm) (FK hs (by omega) hj)
 intro a ha b hb;obtain ⟨i,hi⟩:=List.mem_iff_getElem?.1 ha;have jv:=(List.getElem?_eq_some_iff.1 hi).1;rw [List.length_take] at jv;rw [List.getElem?_take_of_lt (by omega)] at hi;have h1:=FJ (x:=x) (Q:=Q) (j:=i) (by omega) hi;rcases List.mem_cons.1 hb with rfl|hb
 ·exact h1
 obtain ⟨j,hj⟩:=List.mem_iff_getElem?.1 hb;rw [List.getElem?_drop] at hj;exact h1.trans (dm.Ov (fun e=>hn b (List.mem_of_mem_drop hb) e.symm) (FK hs (by omega) hj))
theorem nQ.skip {cls:List (List Int)} {t:Nat} {Q:List Wy} {y:Wy} (h:nQ cls t true Q) (hy:(aW cls)[t - 1]?=some y) {l:List Int} (hl:cls[y.aO]?=some l) (hn:l[y.aM+1]?=none):nQ cls t false Q:=by
 have h2:=h.pos rfl;have aF:=ue hy;rw [show t - 1+1=t by omega] at aF;have Ct:=(jR hy).1;refine ⟨h.le,h.sorted,fun x=>?_,fun e=>by cases e⟩;rw [h.mem x];constructor
 ·rintro ⟨h3,h4⟩;exact ⟨h3,fun e=>by cases e⟩
 rintro ⟨h3,_⟩;refine ⟨h3,fun _ z hz=>?_⟩;rw [hy] at hz;cases hz
 intro e;obtain ⟨q1,m,q2,q3⟩:=h3;rw [aF] at q1;unfold up at q1;rw [if_pos e,<- Ct] at q1;rw [e,hl] at q2;cases q2
 rw [q1,hn] at q3;cases q3
theorem nQ.push {cls:List (List Int)} {t:Nat} {Q:List Wy} {y:Wy} (h:nQ cls t true Q) (hy:(aW cls)[t - 1]?=some y) {l:List Int} (hl:cls[y.aO]?=some l) {c:Int} (hn:l[y.aM+1]?=some c):nQ cls t false (iK ⟨c,y.aO,y.aM+1⟩ Q):=by
 have h2:=h.pos rfl;have aF:=ue hy;rw [show t - 1+1=t by omega] at aF;have Ct:=(jR hy).1;have sK:∀ x∈Q,x.aO≠y.aO:=fun x hx=>((h.mem x).1 hx).2 rfl y hy;have sL:iv cls (cU cls t) ⟨c,y.aO,y.aM+1⟩:=by refine ⟨?_,l,hl,hn⟩;rw [aF];unfold up;rw [if_pos rfl,<- Ct]
 refine ⟨h.le,Ow h.sorted sK,fun x=>?_,fun e=>by cases e⟩;rw [Ot,h.mem x];constructor
 ·rintro (rfl|⟨h3,_⟩)
  ·exact ⟨sL,fun e=>by cases e⟩
  exact ⟨h3,fun e=>by cases e⟩
 rintro ⟨h3,_⟩;by_cases e:x.aO=y.aO
 ·exact .inl (iv.eq h3 sL e)
 refine .inr ⟨h3,fun _ z hz=>?_⟩;rw [hy] at hz;cases hz
 exact e
def uf (cls:List (List Int)) (k:Nat) (Q:List Wy):Prop:=Q.Pairwise dm/\∀ x,x∈Q↔iv cls nP x/\x.aO<k
theorem IZ (cls:List (List Int)):uf cls 0 []:=⟨.nil,fun x=>by simp⟩
theorem FL {cls:List (List Int)} {k:Nat} {Q:List Wy} (h:uf cls k Q) {l:List Int} (hl:cls[k]?=some l) (hn:l[0]?=none):uf cls (k+1) Q:=by
 refine ⟨h.1,fun x=>?_⟩;rw [h.2 x];constructor
 ·rintro ⟨h1,h2⟩;exact ⟨h1,by omega⟩
 rintro ⟨h1,h2⟩;refine ⟨h1,?_⟩;by_cases e:x.aO=k
 ·obtain ⟨q1,m,q2,q3⟩:=h1;rw [e,hl] at q2;cases q2
  rw [q1,show nP x.aO=0 from rfl,hn] at q3;cases q3
 omega
theorem FM {cls:List (List Int)} {k:Nat} {Q:List Wy} (h:uf cls k Q) {l:List Int} (hl:cls[k]?=some l) {c:Int} (hn:l[0]?=some c):uf cls (k+1) (iK ⟨c,k,0⟩ Q):=by
 have sL:iv cls nP ⟨c,k,0⟩:=⟨rfl,l,hl,hn⟩;refine ⟨Ow h.1 (fun y hy=>?_),fun x=>?_⟩
 ·have:=((h.2 y).1 hy).2;show y.aO≠k;omega
 rw [Ot,h.2 x];constructor
 ·rintro (rfl|⟨h1,h2⟩)
  ·exact ⟨sL,Nat.lt_succ_self _⟩
  exact ⟨h1,by omega⟩
 rintro ⟨h1,h2⟩;by_cases e:x.aO=k
 ·exact .inl (iv.eq h1 sL e)
 exact .inr ⟨h1,by omega⟩
theorem Ja {cls:List (List Int)} {Q:List Wy} (h:uf cls cls.length Q):nQ cls 0 false Q:=by
 refine ⟨Nat.zero_le _,h.1,fun x=>?_,fun e=>by cases e⟩;rw [h.2 x];constructor
 ·rintro ⟨h1,_⟩;exact ⟨h1,fun e=>by cases e⟩
 rintro ⟨h1,_⟩;refine ⟨h1,?_⟩;obtain ⟨_,l,q,_⟩:=h1;exact (List.getElem?_eq_some_iff.1 q).1
end Go.Abs.Wall
namespace Go.Abs.Wall.Lst
open Go Go.Abs Go.Proofs Go.Abs.Wall
def aq (w:Wy):List AV:=[.int .i64 w.cost,.int .i64 w.aO,.int .i64 w.aM]
def ic (x y:Wy):Int:=ig [cB x.cost y.cost,cB x.aO y.aO]
theorem lH {x y:Wy}:ic x y<0↔dm x y:=by
 unfold ic ig ig ig cB dm;repeat' split
 all_goals first|omega|(simp at *;omega)
def c214:az:=⟨[0,1,2,3,4],[],[],[],[(1,[0,1,2,3,4,5,6,7,8,9,10,11,12],[])],[]⟩
theorem jx (x y:Wy):ae Tryz.prog 214 [.agg (aq x),.agg (aq y)] [] (.int .i64 (ic x y)):=by
 refine aG (F:=Tryz.f214) c214 rfl rfl rfl mixed rfl fun X=>?_;(conv=>whnf);repeat ((first|refine ba (Cu _ _) ?_|refine ba (FN [cB x.cost y.cost,cB x.aO y.aO] (by simp [aw])) ?_|refine And.intro (by show aP (aN Tryz.f214 _) _=true;decide +kernel) ?_);conv=>whnf)
 exact ⟨rfl,rfl⟩
theorem oM {α:Type} {k:Nat} {enc:α->List AV} {P:Program} {t:TypeId} {b o i:Nat} {h:af} {pre:List AV} {L:List α} {x:α} {K:AV->Prop} (hk:∀ a,(enc a).length=k) (hm:(b,Ob.vec (pre++(L.map enc).flatten))∈h) (ho:o=pre.length+i*k) (hx:L[i]?=some x)
  (hl:gy P t (enc x++((L.drop (i+1)).map enc).flatten) K):∃ cs l,(b,Ob.vec cs)∈h/\jd o cs=some l/\gy P t l K:=by
 obtain ⟨hi,ji⟩:=List.getElem?_eq_some_iff.1 hx;refine ⟨_,_,hm,Ci ?_,?_⟩
 ·rw [List.length_append,nM hk,ho];have:=Nat.mul_le_mul_right k (show i<=L.length by omega);omega
 rw [ho,List.drop_append,List.drop_eq_nil_of_le (Nat.le_add_right _ _),List.nil_append,Nat.add_sub_cancel_left,yp hk,List.drop_eq_getElem_cons hi,ji,List.map_cons,List.flatten_cons];exact hl
def gE (x:Wy) (Q:List Wy):Bool:=match Q[cY x Q]? with
 | none=>false
 | some y=>decide (ic y x=0)
theorem dn (w:Wy):(aq w).length=3:=rfl
theorem lI {x:Wy} {Q:List Wy} (hs:Q.Pairwise dm) {j:Nat} {y:Wy} (hy:Q[j]?=some y):ic y x<0↔j<cY x Q:=by
 rw [lH];constructor
 ·intro h;by_cases hj:j<cY x Q
  ·exact hj
  exact absurd h (FK hs (by omega) hy)
 intro h;exact FJ h hy
def c251:az:=⟨[0,1,2,4,6,7,8,9,10,11,17,31],[],[],[],[(5,[0,1,2,3,4,5,6,7],[]),(8,[0,1,2,3,4,5,6,7,8,9,10,11,12,13,14,15],[])],[]⟩
theorem ag.Ox {b off k:Nat}:ag (.aQ b off 0 k) (.sl k none []):=by intro c u h;simp only [aa] at h ⊢;obtain ⟨p,cap,o',h1,h2,rfl,h3,h4,h5,h6,h7,h8⟩:=h;exact ⟨_,cap,rfl,by simp,by simp,h5,by simp,by simp,by simp [cm],by simp⟩
theorem kH (w:Wy):ae Tryz.prog 251 [.sl 3 none [],.agg (aq w),.fn 214 []] [] (.aH [.int .i64 (cY w []),.bool (gE w [])]):=by
 refine aG (F:=Tryz.f251) c251 rfl rfl rfl mixed rfl fun X=>?_;(conv=>whnf);refine yx 60 rfl mixed ?_;(conv=>whnf);refine .inr ?_;(conv=>whnf);refine cF rfl ?_;(conv=>whnf);repeat ((first|(refine ⟨0,[.int .i64 0,.int .i64 0,.int .i64 0],?_,?_⟩;(focus (conv=>whnf;skip));(focus (intro hq;exact absurd hq (by decide))))|(refine ⟨.int .i64 0,?_,?_⟩;(focus (conv=>whnf;skip));(focus (intro hq;exact absurd hq (by decide))))|refine And.intro (by show aP (aN Tryz.f251 _) _=true;decide +kernel) ?_);conv=>whnf)
 exact ⟨rfl,rfl⟩
theorem lJ (x:Wy) (Q:List Wy) (hs:Q.Pairwise dm) (b:Nat) (pre:List AV) (hl:Q.length<=4294967296) :
  ae Tryz.prog 251 [.aQ b pre.length Q.length 3,.agg (aq x),.fn 214 []] [(b,.vec (pre++(Q.map aq).flatten))] (.aH [.int .i64 (cY x Q),.bool (gE x Q)]):=by
 have VS:=Aw x Q;by_cases aJ:0<Q.length
 rotate_left
 ·have hq:Q=[]:=List.eq_nil_of_length_eq_zero (by omega);subst hq;exact ae.args (ae.wide (kH x) _) (.cons ag.Ox (.cons (ag.refl _) (.cons (ag.refl _) .nil)))
 refine aG (F:=Tryz.f251) c251 rfl rfl rfl mixed rfl fun X=>?_;(conv=>whnf);skip;refine bR rfl mixed [0,2,4,8,9,10] [] (fun m r h=>∃ (i j:Nat),r=[(0,[],.aQ b pre.length Q.length 3),(2,[],.fn 214 []),(4,[],.au (aq x)),(8,[],.int .i64 Q.length),(9,[],.int .i64 i),(10,[],.int .i64 j)]/\h=[(b,.vec (pre++(Q.map aq).flatten))]/\m=j - i/\i<=cY x Q/\cY x Q<=j/\j<=Q.length) ?_ ?_
 ·(conv=>whnf);exact ⟨_,0,Q.length,rfl,rfl,rfl,by omega,by omega,by omega⟩
 rintro m r h ⟨i,j,rfl,rfl,rfl,hi,hj,gl⟩;(conv=>whnf);refine ⟨fun hz=>?_,fun hz=>?_⟩<;>simp at hz
 ·have Jb:((i:Int)+(j:Int)) / 2=(((i+j) / 2:Nat):Int):=(by omega);obtain ⟨y,hy⟩:=aL (l:=Q) (i:=(i+j) / 2) (by omega);have fK:=lI (x:=x) hs hy;have hw:IntKind.u64.wrap ((i:Int)+(j:Int))=(i:Int)+(j:Int):=by simp [IntKind.wrap,IntKind.signed,IntKind.bits];omega
  (conv=>whnf);repeat (refine ⟨ah ⟨by omega,by omega⟩,?_⟩;conv=>whnf)
  rw [hw];refine ⟨ah ⟨⟨rfl,rfl⟩,by omega,by omega⟩,?_⟩;rw [Jb];(conv=>whnf);repeat ((first|refine ⟨ah ⟨by omega,by omega⟩,?_⟩|(refine ⟨(i+j) / 2,ah ⟨rfl,by omega⟩,?_⟩)|(refine oM dn (.head _) rfl hy ?_)|refine ba (jx y x) ?_|refine And.intro (by show aP (aN Tryz.f251 _) _=true;decide +kernel) ?_);conv=>whnf)
  refine ⟨fun hc=>?_,fun hc=>?_⟩<;>simp at hc
  ·(conv=>whnf);repeat (refine ⟨ah ⟨by omega,by omega⟩,?_⟩;conv=>whnf)
   exact ⟨_,by omega,(i+j) / 2+1,j,rfl,rfl,rfl,by have:=fK.1 hc;omega,hj,gl⟩
  (conv=>whnf);skip;exact ⟨_,by omega,i,(i+j) / 2,rfl,rfl,rfl,hi,by have:=mt fK.2 (by omega);omega,by omega⟩
 have bC:i=cY x Q:=(by omega);subst bC;by_cases aI:cY x Q<Q.length
 ·obtain ⟨y,hy⟩:=aL (l:=Q) (i:=cY x Q) aI;(conv=>whnf);repeat ((first|(refine ⟨cY x Q,ah ⟨rfl,by omega⟩,?_⟩)|(refine oM dn (.head _) rfl hy ?_)|refine ba (jx y x) ?_|refine And.intro (by show aP (aN Tryz.f251 _) _=true;decide +kernel) ?_);conv=>whnf)
  refine ⟨?_,rfl⟩;unfold gE;rw [hy];simp [aI]
 have hn:Q[cY x Q]?=none:=List.getElem?_eq_none (by omega);obtain ⟨y,hy⟩:=aL (l:=Q) (i:=0) aJ;have Jc:decide (((cY x Q:Nat):Int)<(Q.length:Int))=false:=by simp;omega
 (conv=>whnf);repeat (refine And.intro (by show aP (aN Tryz.f251 _) _=true;decide +kernel) ?_;conv=>whnf)
 rw [Jc];repeat ((first|(refine ⟨0,(fun hq=>by cases hq),?_⟩)|(refine oM (i:=0) dn (.head _) rfl hy ?_)|refine ba (jx y x) ?_);conv=>whnf)
 refine ⟨?_,rfl⟩;unfold gE;rw [hn];rfl
theorem Oy {P:Program} {f:FuncId} {fn:Func} {tS tR e:TypeId} {vb b vo o n m c k k2:Nat} {VT eF:List AV} {h:af} {K:AV->af->Prop} (hf:P.funcs[f]?=some fn) (Cv:(fn.name == "runtime.NumGoroutine")=false)
  (hb:fn.body.isNone=true) (hn:Extern.findNext fn=none) (he:Extern.find fn=some (Extern.SlicesOverlaps.overlaps #[tS,tS] #[tR])) (ht:P.underlying tS=some (.slice e)) (hz:P.info? e≠none)
  (h1:(vb,Ob.vec VT)∈h) (h2:(b,Ob.vec eF)∈h) (aJ:vb≠b) (hc:0<eF.length) (jS:0<n) (hK:K (.bool false) h) :
  aB P f [.aQ vb vo n k,.eM b o m c k2] h K:=by
 refine ⟨fun X g w us ck hr=>.inr ?_⟩;simp only [ax] at hr;obtain ⟨u1,r1,hu,sM,u2,r2,js,fk,Oz⟩:=hr;subst js Oz;obtain ⟨p1,OA,a1,a2,rfl,a3,a4,a5,a6,_⟩:=sM.BO jS;rw [aa] at fk;obtain ⟨p2,b1,b2,rfl,b3,b4,b5,b6,b7⟩:=fk;obtain ⟨q1,Ac,t1,c1,c2,c3,c4,c5,c6⟩:=ck.obj vb _ h1;obtain ⟨q2,sq,t2,d1,d2,d3,d4,d5,d6⟩:=ck.obj b _ h2;simp only at a1 b1 c1 c3 c4 d1 d3 d4;rw [c1] at a1;cases a1
 rw [d1] at b1;cases b1
 have iL:p1.block≠p2.block:=by
  intro e;rw [e,d3] at c3;cases c3
  exact aJ rfl
 have bd:us=#[.slice (some ⟨p1.block,p1.off+vo,none⟩) n OA,.slice (some ⟨p2.block,p2.off+o,none⟩) m c]:=by rw [<- Array.toList_inj];exact hu
 subst bd;obtain ⟨i,hi⟩:=Option.ne_none_iff_exists'.1 hz
 have bx:=Go.Lib.run_overlaps_apart (P:=P) w tS tR e ht i.size (fun w=>by simp [Go.sizeOf,typeInfo,hi]) ⟨p1.block,p1.off+vo,none⟩ ⟨p2.block,p2.off+o,none⟩ n OA m c iL t1 t2 Ac.size sq.size
  (by simp [World.shape?,c4]) (by simp [World.shape?,d4]) (by omega) (frozen_of_row w p1.block _ Ac t1 c4) (frozen_of_row w p1.block _ Ac t1 c4)
 refine ⟨.bool false,w,?_,.bool false,.bool false,g,h,rfl,hK,ck,by rw [aa],Step.refl _ _ _ _⟩;rw [run_callFunc_extern hf Cv hb hn he,bx];rfl
theorem ag.eM {b off n c k:Nat}:ag (.eM b off n c k) (.aQ b off n k):=by intro v u h;simp only [aa] at h ⊢;obtain ⟨p,h1,h2,h3,h4,h5,h6,h7,h8⟩:=h;exact ⟨p,c,off,h1,h2,h3,h4,h5,h6,h7,fun _=>rfl,h8⟩
theorem aB.OB {P:Program} {f:FuncId} {b off len k:Nat} {vs:List AV} {h:af} {R:AV->af->Prop} (hc:∀ Ax c,(0<c->Ax=off)->len<=c->aB P f (.eM b Ax len c k::vs) h R):aB P f (.aQ b off len k::vs) h R:=by refine ⟨fun X g w us cV hr=>?_⟩;simp only [ax] at hr;obtain ⟨u,r,hu,hx,hr⟩:=hr;simp only [aa] at hx;obtain ⟨p,cap,o',h1,h2,h3,h4,h5,h6,h7,h8,h9⟩:=hx;refine (hc o' cap h8 h4).1 X g w us cV ?_;simp only [ax];exact ⟨u,r,hu,by simp only [aa];exact ⟨p,h1,h2,h3,h4,h5,h6,h7,h9⟩,hr⟩
def c252:az:=⟨[0,1,2,6,7,8,9,16,22,31,68],[],[],[],[(11,[0,1,2,3,4,5,6,7,8],[]),(15,[0,1,2,3,4,5,6,7,8],[])],[]⟩
theorem lK (x:Wy) (vb:Nat):aB Tryz.prog 252 [.aT,.int .i64 0,.aQ vb 0 1 3] [(vb,.vec (aq x))] (fun v h'=>∃ q,v=.aQ q 0 1 3/\h'=[(q,.vec (aq x)),(vb,.vec (aq x))]):=by
 refine aG (F:=Tryz.f252) c252 rfl rfl rfl mixed rfl fun X=>?_;(conv=>whnf);repeat (refine ⟨ah ⟨by omega,by omega⟩,?_⟩;conv=>whnf)
 refine cF rfl ?_;(conv=>whnf);skip;refine cT rfl ?_;(conv=>whnf);repeat ((refine ⟨_,[aq x],.head _,⟨rfl,by simp [aq],rfl⟩,⟨Nat.le_of_ble_eq_true rfl,Nat.le_of_ble_eq_true rfl⟩,fun q=>?_⟩);conv=>whnf)
 exact ⟨q,rfl,rfl⟩
theorem Jd {A B X:List AV}:dt (A++B) A.length X=A++(X++B.drop X.length):=by unfold dt;rw [List.take_left,List.append_assoc,<- List.drop_drop,List.drop_left]
theorem OC {A B X D:List AV} {n m:Nat} (hn:n=A.length) (hm:m=A.length+X.length) (hb:B.length=X.length+D.length):dt (dt (A++B) n X) m D=A++(X++D):=by subst hn;rw [Jd,<- List.append_assoc,show m=(A++X).length by rw [List.length_append];omega,Jd,List.drop_drop,List.drop_eq_nil_of_le (by omega),List.append_nil,List.append_assoc]
theorem OD {A X D:List AV} {n m:Nat} (hn:n=A.length) (hm:m=A.length+X.length) (hb:X.length<=D.length):dt (dt (A++D) m D) n X=A++(X++D):=by
 subst hn hm;have h1:dt (A++D) (A.length+X.length) D=A++(D.take X.length++D):=by unfold dt;rw [List.drop_eq_nil_of_le (by rw [List.length_append];omega),List.append_nil,List.take_append,List.take_of_length_le (by omega),Nat.add_sub_cancel_left,List.append_assoc]
 rw [h1,Jd];congr 2;rw [List.drop_append,List.drop_eq_nil_of_le (by rw [List.length_take];omega),List.nil_append,List.length_take];have:X.length - min X.length D.length=0:=(by omega);rw [this];rfl
theorem lL:Extern.find Tryz.f273=some (Extern.SlicesOverlaps.overlaps #[321,321] #[4]):=by kernel_rfl
def lM (x:Wy) (Q:List Wy) (i vb:Nat) (v:AV) (h':af):Prop:=∃ b' fy,ag v (.aQ b' fy.length (Q.length+1) 3)/\∃ h2,h'.Perm ((b',.vec (fy++((Q.take i++x::Q.drop i).map aq).flatten))::h2)
theorem lN (x:Wy) (Q:List Wy) (i:Nat) (hi:i<=Q.length) (b vb off c:Nat) (pre cs:List AV) (bV:cs=pre++(Q.map aq).flatten) (ho:0<c->off=pre.length) (hc:Q.length<=c) (hl:Q.length<=65536) (aJ:vb≠b) :
  aB Tryz.prog 252 [.eM b off Q.length c 3,.int .i64 i,.aQ vb 0 1 3] [(b,.vec cs),(vb,.vec (aq x))] (lM x Q i vb):=by
 have bz:cs.length=pre.length+Q.length*3:=(by rw [bV,List.length_append,nM dn]);refine aG (F:=Tryz.f252) c252 rfl rfl rfl mixed rfl fun X=>?_;(conv=>whnf);repeat (refine ⟨ah ⟨by omega,by omega⟩,?_⟩;conv=>whnf)
 refine cF rfl ?_;(conv=>whnf);skip;refine ⟨fun he=>?_,fun he=>?_⟩<;>simp at he
 ·have he:i=Q.length:=(by omega);subst he;have dP:((Q.take Q.length++x::Q.drop Q.length).map aq).flatten=(Q.map aq).flatten++[aq x].flatten:=by rw [List.take_length,List.drop_length,List.map_append,List.flatten_append];rfl
  by_cases jT:Q.length+1<=c
  ·have:=ho (by omega);subst this;(conv=>whnf);repeat ((refine ⟨_,[aq x],.tail _ (.head _),⟨rfl,by simp [aq],rfl⟩,by unfold aU;omega,cs,.head _,.inl ⟨jT,bz,_,.here _,?_⟩⟩);conv=>whnf)
   refine ⟨b,pre,ag.eM,[(vb,.vec (aq x))],?_⟩;rw [bV,dP,<- List.append_assoc]
  have Cw:Q.length=0\/off+Q.length*3<=cs.length:=by
   by_cases h0:Q.length=0
   ·exact .inl h0
   have:=ho (by omega);exact .inr (by omega)
  have cj:(cs.drop off).take (Q.length*3)=(Q.map aq).flatten:=by
   by_cases h0:Q.length=0
   ·have:Q=[]:=List.eq_nil_of_length_eq_zero h0;subst this;simp
   have:=ho (by omega);rw [bV,this,List.drop_left,List.take_of_length_le (by rw [nM dn];exact Nat.le_refl _)]
  (conv=>whnf);repeat ((refine ⟨_,[aq x],.tail _ (.head _),⟨rfl,by simp [aq],rfl⟩,by unfold aU;omega,cs,.head _,.inr ⟨by omega,Cw,fun q=>?_⟩⟩);conv=>whnf)
  refine ⟨q,[],ag.refl _,[(b,.vec cs),(vb,.vec (aq x))],?_⟩;rw [cj,dP];exact .refl _
 have cu:i<Q.length:=(by omega);have sC:=ho (by omega);subst sC;have z1:(i:Int).toNat - Int.toNat 0=i:=(by simp);have z2:c - Int.toNat 0=c:=(by simp);have z3:pf pre.length (Int.toNat 0) c 3=pre.length:=by unfold pf;split<;>simp
 have z4:(Q.length:Int)+((1:Nat):Int) - (i:Int)=((Q.length+1 - i:Nat):Int):=(by omega);have z5:pf pre.length (i:Int).toNat c 3=pre.length+i*3:=by unfold pf;rw [if_neg (by simp;omega)];simp
 have Je:cs.drop pre.length=(Q.map aq).flatten:=(by rw [bV,List.drop_left]);have Cy:cs.drop (pre.length+i*3)=((Q.drop i).map aq).flatten:=(by rw [bV,List.drop_append,List.drop_eq_nil_of_le (by omega),List.nil_append,Nat.add_sub_cancel_left,yp dn]);(conv=>whnf);repeat (refine ⟨ah ⟨by omega,by omega⟩,?_⟩;conv=>whnf)
 refine ⟨fun hz=>?_,fun hz=>?_⟩<;>simp at hz
 ·(conv=>whnf);repeat (refine ⟨ah ⟨by omega,by omega⟩,?_⟩;conv=>whnf)
  rw [z1,z2,z3,z4];refine ⟨cs,.head _,⟨by omega,by omega,by omega,by omega⟩,fun q=>?_⟩;rw [Je,FO dn,Int.toNat_natCast,show i+(Q.length+1 - i)=Q.length+1 by omega];(conv=>whnf);repeat (refine ⟨ah ⟨by omega,by omega⟩,?_⟩;conv=>whnf)
  have m1:min 1 (((Q.length+1:Nat):Int).toNat - (i:Int).toNat)=1:=by rw [Int.toNat_natCast,Int.toNat_natCast];omega
  have m2:0+(i:Int).toNat*3=i*3:=(by simp);have fH:((Q.take i).map aq).flatten.length=i*3:=by rw [nM dn,List.length_take];omega
  have qB:((Q.drop i).map aq).flatten.length=(Q.length - i)*3:=(by rw [nM dn,List.length_drop]);have vk:(gM (Q.length+1 - i) [AV.int .i64 0,AV.int .i64 0,AV.int .i64 0]).length=(Q.length+1 - i)*3:=by unfold gM;simp
  rw [m1,m2];refine ⟨_,[aq x],.tail _ (.tail _ (.head _)),⟨rfl,by simp [aq],rfl⟩,_,_,.here _,⟨by omega,?_⟩,?_⟩
  ·rw [List.length_append,fH,vk];show i*3+3<=_;omega
  (conv=>whnf);repeat ((first|refine ⟨ah ⟨by omega,by omega⟩,?_⟩|refine And.intro (by show aP (aN Tryz.f252 _) _=true;decide +kernel) ?_);conv=>whnf)
  have m3:min ((Q.length:Int).toNat - (i:Int).toNat) (((Q.length+1:Nat):Int).toNat - ((i:Int)+((1:Nat):Int)).toNat)=Q.length - i:=by rw [show (i:Int)+((1:Nat):Int)=((i+1:Nat):Int) by omega];simp only [Int.toNat_natCast];omega
  have m4:0+((i:Int)+((1:Nat):Int)).toNat*3=(i+1)*3:=(by rw [show (i:Int)+((1:Nat):Int)=((i+1:Nat):Int) by omega,Int.toNat_natCast,Nat.zero_add]);rw [m3,m4,z5];have Jf:=OC (A:=((Q.take i).map aq).flatten) (B:=gM (Q.length+1 - i) [AV.int .i64 0,AV.int .i64 0,AV.int .i64 0]) (X:=aq x) (D:=((Q.drop i).map aq).flatten) (n:=i*3) (m:=(i+1)*3) fH.symm (by rw [fH];show _=i*3+3;omega) (by rw [vk,qB];show _=3+_;omega);refine ⟨cs,(Q.drop i).map aq,.tail _ (.head _),⟨?_,?_,by simp⟩,_,_,.here _,⟨by omega,?_⟩,?_⟩
  ·rw [Cy,List.take_of_length_le (by rw [qB];exact Nat.le_refl _)]
  ·intro z hz;obtain ⟨w,_,rfl⟩:=List.mem_map.1 hz;rfl
  ·have h1:(dt (((Q.take i).map aq).flatten++gM (Q.length+1 - i) [AV.int .i64 0,AV.int .i64 0,AV.int .i64 0]) (i*3) [aq x].flatten).length=(Q.length+1)*3:=by
    rw [Jg _ _ _ (by rw [List.length_append,fH,vk];show i*3+3<=_;omega),List.length_append,fH,vk];omega
   rw [h1,qB];omega
  (conv=>whnf);skip;refine ⟨q,[],ag.refl _,[(b,.vec cs),(vb,.vec (aq x))],?_⟩;rw [show [aq x].flatten=aq x from by simp,Jf,List.map_append,List.flatten_append];exact .refl _
 (conv=>whnf);repeat (refine ⟨ah ⟨by omega,by omega⟩,?_⟩;conv=>whnf)
 rw [z2,z3];have z7:pf pre.length ((i:Int)+((1:Nat):Int)).toNat c 3=pre.length+(i+1)*3:=by rw [show (i:Int)+((1:Nat):Int)=((i+1:Nat):Int) by omega,Int.toNat_natCast];unfold pf;rw [if_neg (by omega)]
 have z9:((Q.length:Int)+((1:Nat):Int)).toNat - Int.toNat 0=Q.length+1:=by rw [show (Q.length:Int)+((1:Nat):Int)=((Q.length+1:Nat):Int) by omega];simp
 have z8:(((Q.length+1:Nat):Int)).toNat - ((i:Int)+((1:Nat):Int)).toNat=Q.length - i:=by rw [show (i:Int)+((1:Nat):Int)=((i+1:Nat):Int) by omega,Int.toNat_natCast,Int.toNat_natCast];omega
 rw [z7,z9,z8];refine Oy (fn:=Tryz.f273) rfl rfl rfl (by kernel_rfl) lL rfl (by decide) (.tail _ (.head _)) (.head _) aJ (by omega) (by omega) ?_;(conv=>whnf);skip;refine cT rfl ?_;(conv=>whnf);repeat ((first|refine ⟨ah ⟨by omega,by omega⟩,?_⟩|refine And.intro (by show aP (aN Tryz.f252 _) _=true;decide +kernel) ?_);conv=>whnf)
 have fH:((Q.take i).map aq).flatten.length=i*3:=by rw [nM dn,List.length_take];omega
 have qB:((Q.drop i).map aq).flatten.length=(Q.length - i)*3:=(by rw [nM dn,List.length_drop]);have m3:min (((Q.length+1:Nat):Int).toNat - (i:Int).toNat) (((Q.length+1:Nat):Int).toNat - ((i:Int)+((1:Nat):Int)).toNat)=Q.length - i:=by rw [show (i:Int)+((1:Nat):Int)=((i+1:Nat):Int) by omega];simp only [Int.toNat_natCast];omega
 have Jh:cs=(pre++((Q.take i).map aq).flatten)++((Q.drop i).map aq).flatten:=(by rw [bV,List.append_assoc,<- List.flatten_append,<- List.map_append,List.take_append_drop]);have jy:(pre++((Q.take i).map aq).flatten).length=pre.length+i*3:=(by rw [List.length_append,fH]);have yC:=OD (A:=pre++((Q.take i).map aq).flatten) (X:=aq x) (D:=((Q.drop i).map aq).flatten) (n:=pre.length+i*3) (m:=pre.length+(i+1)*3) jy.symm (by rw [jy];show _=_+3;omega) (by rw [qB];show 3<=_;omega);rw [<- Jh] at yC;rw [m3,z5,z7];refine ⟨cs,(Q.drop i).map aq,.head _,⟨?_,?_,by simp⟩,_,_,.here _,⟨by omega,by omega⟩,?_⟩
 ·rw [Cy,List.take_of_length_le (by rw [qB];exact Nat.le_refl _)]
 ·intro z hz;obtain ⟨w,_,rfl⟩:=List.mem_map.1 hz;rfl
 (conv=>whnf);repeat (refine ⟨ah ⟨by omega,by omega⟩,?_⟩;conv=>whnf)
 have m1:min 1 (((Q.length+1:Nat):Int).toNat - (i:Int).toNat)=1:=by rw [Int.toNat_natCast,Int.toNat_natCast];omega
 rw [m1,z5];refine ⟨_,[aq x],.tail _ (.head _),⟨rfl,by simp [aq],rfl⟩,_,_,.here _,⟨by omega,?_⟩,?_⟩
 ·unfold dt;simp only [List.length_append,List.length_take,List.length_drop];omega
 (conv=>whnf);skip;refine ⟨b,pre,ag.eM,[(vb,.vec (aq x))],?_⟩;rw [show [aq x].flatten=aq x from by simp,yC,show pre++((Q.take i++x::Q.drop i).map aq).flatten=(pre++((Q.take i).map aq).flatten)++(aq x++((Q.drop i).map aq).flatten) from by simp [List.append_assoc]]
theorem aB.re {f:FuncId} {vs:List AV} {h h2 H:af} {R R':AV->af->Prop} (hf:aB Tryz.prog f vs h R) (hp:(h++h2).Perm H)
  (hr:∀ v h1,R v h1->∃ H',(h1++h2).Perm H'/\R' v H'):aB Tryz.prog f vs H R':=by
 refine aB.post (aB.perm (aB.frame hf h2) hp) ?_;rintro v h3 ⟨h1,hR,rfl⟩;obtain ⟨H',aY,Ji⟩:=hr v h1 hR;exact ⟨v,H',Ji,ag.refl _,fun k o hm=>aY.mem_iff.2 hm,fun hn=>by unfold keys at hn ⊢;exact ((aY.map _).nodup_iff).1 hn⟩
def eA (Q:List Wy) (ov:AV) (oh:af):Prop:=(Q=[]/\ov=.aT/\oh=[])\/∃ b pre,ov=.aQ b pre.length Q.length 3/\oh=[(b,.vec (pre++(Q.map aq).flatten))]
theorem lO (x:Wy) (Q:List Wy) (b vb:Nat) (pre:List AV) (hl:Q.length<=65536) :
  aB Tryz.prog 252 [.aQ b pre.length Q.length 3,.int .i64 (cY x Q),.aQ vb 0 1 3] [(b,.vec (pre++(Q.map aq).flatten)),(vb,.vec (aq x))]
   (fun v h'=>∃ b' fy,v=.aQ b' fy.length (Q.length+1) 3/\h'=[(b',.vec (fy++((iK x Q).map aq).flatten))]):=by
 by_cases aJ:vb=b
 ·subst aJ;refine ⟨fun X g w us hc hr=>?_⟩;have:=hc.nodup;simp [keys] at this
 refine aB.post (aB.OB fun Ax c ho hc=>lN x Q (cY x Q) (Aw x Q) b vb Ax c pre _ rfl ho hc hl aJ) ?_;rintro v h1 ⟨b',fy,hv,h2,hp⟩;refine ⟨_,_,⟨b',fy,rfl,rfl⟩,hv,fun k o hm=>hp.mem_iff.2 (by cases List.mem_singleton.1 hm;exact List.mem_cons_self),fun _=>by simp [keys]⟩
def ch (fv ov:AV) (due:Bool):List AV:=[fv,ov,.fn 214 [],.bool due]
def c215:az:=⟨[0,1,3,4],[26],[],[],[(1,[0,1,2,3,4,5,6,7,8,9,10,11,12,13,14],[]),(2,[0,1,2,3,4,5,6,7,8,9,10,11],[])],[26,27]⟩
theorem lP (x:Wy) (Q:List Wy) (hs:Q.Pairwise dm) (nk:Nat) (fv:AV) (due:Bool) (ov:AV) (oh:af) (ho:eA Q ov oh) (hl:Q.length<=65536) :
  aB Tryz.prog 215 [.bj nk 1,.agg (aq x)] ((nk,.vec (ch fv ov due))::oh)
   (fun v h'=>v=.aH []/\∃ iM iN,eA (iK x Q) iM iN/\h'=(nk,.vec (ch fv iM due))::iN):=by
 have jv:=wM x Q;refine aB.post (R:=fun v h'=>v=.aH []/\∃ iM iN g,eA (iK x Q) iM iN/\h'.Perm ((nk,.vec (ch fv iM due))::(iN++g))) ?_ ?_
 ·rcases ho with ⟨rfl,rfl,rfl⟩|⟨b,pre,rfl,rfl⟩
  ·have mT:ae Tryz.prog 251 [.aT,.agg (aq x),.fn 214 []] [] (.aH [.int .i64 (cY x []),.bool (gE x [])]):=
    ae.args (kH x) (.cons (ag.nil (by decide)) (cW.refl _))
   refine aG (F:=Tryz.f215) c215 rfl rfl rfl mixed rfl fun X=>?_;(conv=>whnf);repeat ((first|refine ba (mT) ?_|refine ⟨_,_,.head _,rfl,?_⟩|refine And.intro (by show aP (aN Tryz.f215 _) _=true;decide +kernel) ?_|intro (nb:Nat));conv=>whnf)
   refine aB.mono ?_ (aB.frame (lK x nb) _);rintro v h1 ⟨h2,⟨q,rfl,rfl⟩,rfl⟩;(conv=>whnf);repeat ((refine ⟨_,_,.there (.there (.here _)),aR,?_⟩);conv=>whnf)
   exact ⟨rfl,.aQ q 0 1 3,[(q,.vec (aq x))],[(nb,.vec (aq x))],.inr ⟨q,[],rfl,rfl⟩,List.perm_append_comm (l₁:=[(q,_),(nb,_)]) (l₂:=[(nk,_)])⟩
  have mT:ae Tryz.prog 251 [.aQ b pre.length Q.length 3,.agg (aq x),.fn 214 []] [(nk,.vec (ch fv (.aQ b pre.length Q.length 3) due)),(b,.vec (pre++(Q.map aq).flatten))] (.aH [.int .i64 (cY x Q),.bool (gE x Q)]):=
   ae.perm (h2:=[(nk,.vec (ch fv (.aQ b pre.length Q.length 3) due))]) (lJ x Q hs b pre (by omega)) (List.perm_append_comm (l₁:=[_]) (l₂:=[_]))
  refine aG (F:=Tryz.f215) c215 rfl rfl rfl mixed rfl fun X=>?_;(conv=>whnf);repeat ((first|(refine FP mT ?_)|refine ⟨_,_,.head _,rfl,?_⟩|refine And.intro (by show aP (aN Tryz.f215 _) _=true;decide +kernel) ?_|intro (nb:Nat));conv=>whnf)
  refine aB.mono (R:=fun v h1=>∃ b' fy g,v=.aQ b' fy.length (Q.length+1) 3/\h1=(b',.vec (fy++((iK x Q).map aq).flatten))::(nk,.vec (ch fv (.aQ b pre.length Q.length 3) due))::g) ?_ (aB.re (lO x Q b nb pre hl) (h2:=[(nk,.vec (ch fv (.aQ b pre.length Q.length 3) due))]) ?_ ?_)
  ·rintro v h1 ⟨b',fy,g,rfl,rfl⟩;(conv=>whnf);repeat ((refine ⟨_,_,.there (.here _),aR,?_⟩);conv=>whnf)
   exact ⟨rfl,.aQ b' fy.length (Q.length+1) 3,[(b',.vec (fy++((iK x Q).map aq).flatten))],g,.inr ⟨b',fy,by rw [jv],rfl⟩,List.Perm.swap _ _ _⟩
  ·exact (List.Perm.swap _ _ _).trans (List.Perm.cons _ (List.Perm.swap _ _ _))
  rintro v h1 ⟨b',fy,rfl,rfl⟩;exact ⟨_,.refl _,b',fy,[],rfl,rfl⟩
 rintro v h1 ⟨rfl,iM,iN,g,bH,hp⟩;refine ⟨_,_,⟨rfl,iM,iN,bH,rfl⟩,ag.refl _,fun k o hm=>hp.mem_iff.2 ?_,fun hn=>?_⟩
 ·rcases List.mem_cons.1 hm with h|h
  ·rw [h];exact List.mem_cons_self
  exact List.mem_cons_of_mem _ (List.mem_append_left _ h)
 have h1:=((hp.map (fun p:Nat × Ob=>p.1)).nodup_iff).1 hn;unfold keys;simp only [List.map_cons,List.map_append,List.nodup_cons,List.mem_append,not_or,List.nodup_append] at h1 ⊢;exact ⟨h1.1.1,h1.2.1⟩
end Go.Abs.Wall.Lst
